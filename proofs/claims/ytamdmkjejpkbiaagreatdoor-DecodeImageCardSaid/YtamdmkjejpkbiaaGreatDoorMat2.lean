/- A matrix in memory, more: asking, adding, the rank, the data of all columns. -/
import Derived.Test.YtamdmkjejpkbiaaGreatDoorMat
namespace Go.Proofs.YtamdmkjejpkbiaaGreatDoor
open Go Go.RowKit Go.Proofs

theorem SlAt.ofNil (w : World) : SlAt NoF w (.slice none 0 0) (bytesV []) := SlAt.nil _ _

set_option maxRecDepth 100000 in
/-- Does a row say something new? -/
theorem mat_says {w : World} {F : Nat → Prop} {bm n sz : Nat} {M : Mat} (h : MatRep w F bm n sz M) {bv bw x : Nat} (hv : VecRep w bv bw n x) (he : Env w) (d : List UInt8) :
    Calls Tryz.prog 34 #[.pointer (some ⟨bm, 0, none⟩), .pointer (some ⟨bv, 0, none⟩)] w fun e w' => e = .returned (.bool (says M x d)) ∧ Fr NoF w w' := by
  have hs : says M x d = ((reduce M (x, padL [] sz)).1 != 0) := says_data M x d (padL [] sz)
  have HS := Lib.hid hs
  clear hs
  go_enter Tryz.func34, Tryz.ntmps34
  go_wp2_with fail
  refine (mat_reduced h hv (SlAt.ofNil w)).mono ?_
  rintro e w1 ⟨g, rfl, hf, hr, b1, b2, b3, b4⟩
  have he1 := he.frN hf
  have c0 : w1.cell? ⟨g.r, 0, none⟩ = some (.pointer (some ⟨g.v, 0, none⟩)) := hr.1.cell 0 rfl
  have HF := Lib.hid hf
  have HR := Lib.hid hr
  clear hf hr
  by_cases h0 : (reduce M (x, padL [] sz)).1 = 0
  · have hv0 : VecRep w1 g.v g.w n 0 := by rw [← h0]; exact HR.out.2.1
    have e : says M x d = false := by rw [HS.out, h0]; rfl
    have HE := Lib.hid e
    clear e h0
    go_wp2_with fail
    refine (vec_first_none hv0).mono ?_
    rintro e w2 ⟨rfl, rfl⟩
    go_wp2_with fail
    go_ret
    exact ⟨by rw [HE.out]; rfl, HF.out⟩
  · have e : says M x d = true := by rw [HS.out]; simpa using h0
    have HE := Lib.hid e
    have H0 := Lib.hid h0
    clear e h0
    go_wp2_with fail
    refine (vec_first HR.out.2.1 H0.out he1).mono ?_
    rintro e w2 ⟨rfl, rfl⟩
    go_wp2_with fail
    go_ret
    exact ⟨by rw [HE.out]; simp, HF.out⟩

/-- How many rows there are. -/
theorem mat_rank {w : World} {F : Nat → Prop} {bm n sz : Nat} {M : Mat} (h : MatRep w F bm n sz M) :
    Calls Tryz.prog 23 #[.pointer (some ⟨bm, 0, none⟩)] w fun e w' => e = .returned (.int .i64 (rank M : Nat)) ∧ w = w' := by
  obtain ⟨brs, L, hL, hn, hb, _⟩ := h
  have c3 := hb.cell 3 rfl
  go_enter Tryz.func23, Tryz.ntmps23
  go_wp2_with fail
  refine (at_load_i64 c3).mono ?_
  rintro e w1 ⟨rfl, rfl⟩
  go_wp2
  go_ret
  exact ⟨rfl, rfl⟩

/-- Is there a row for each column? -/
theorem mat_full {w : World} {F : Nat → Prop} {bm n sz : Nat} {M : Mat} (h : MatRep w F bm n sz M) :
    Calls Tryz.prog 24 #[.pointer (some ⟨bm, 0, none⟩)] w fun e w' => e = .returned (.bool (decide (rank M = n))) ∧ Fr NoF w w' := by
  have HM := Lib.hid h
  obtain ⟨brs, L, hL, hn, hb, _⟩ := h
  have c0 := hb.cell 0 rfl
  clear hL hn hb
  go_enter Tryz.func24, Tryz.ntmps24
  go_wp2_with fail
  go_quiet ((go_at_call 23; exact Calls.quiet_of_same ((mat_rank (HM.out.frN ((Fr.refl _ _).drewN _))).mono fun e w' h => ⟨h.1, h.2.symm⟩)))
  go_wp2_with fail
  go_ret
  refine ⟨?_, (Fr.refl _ _).drewN _⟩
  have e : (((rank M : Nat) : Int) == (n : Int)) = decide (rank M = n) := by rw [Bool.eq_iff_iff]; simp; omega
  simp [e]

/-- The rows when the first k have been looked at. -/
def updL (L : MatL) (r : Row) (k : Nat) : MatL := (L.take k).map (Option.map fun a => (a.1, upd r a.2)) ++ L.drop k
theorem updL_get (L : MatL) (r : Row) (k i : Nat) (hk : k ≤ L.length) : (updL L r k)[i]? = if i < k then (L[i]?).map (Option.map fun a => (a.1, upd r a.2)) else L[i]? := by
  have hl : ((L.take k).map (Option.map fun a => (a.1, upd r a.2))).length = k := by simp; omega
  unfold updL
  split
  · rename_i h
    rw [List.getElem?_append_left (by omega), List.getElem?_map, List.getElem?_take_of_lt h]
  · rw [List.getElem?_append_right (by omega), hl, List.getElem?_drop]
    congr 1
    omega
theorem updL_zero (L : MatL) (r : Row) : updL L r 0 = L := by simp [updL]
theorem updL_all (L : MatL) (r : Row) : updL L r L.length = L.map (Option.map fun a => (a.1, upd r a.2)) := by simp [updL]
theorem bare_upd (L : MatL) (r : Row) : bare (L.map (Option.map fun a => (a.1, upd r a.2))) = (bare L).map (Option.map (upd r)) := by
  unfold bare
  rw [List.map_map, List.map_map]
  apply List.map_congr_left
  intro a _
  cases a <;> rfl
theorem ptr_upd (L : MatL) (r : Row) : (L.map (Option.map fun a => (a.1, upd r a.2))).map ptrOf = L.map ptrOf := by
  rw [List.map_map]
  apply List.map_congr_left
  intro a _
  cases a <;> rfl

theorem RowRep.neB {w : World} {g : RG} {n sz : Nat} {y : Row} (h : RowRep w g n sz y) {b : Nat} {c : Array Value} {T : TypeId} (hb : Blk w b c T) (h1 : T ≠ 31) (h2 : T ≠ 5) : ¬ (b = g.w ∨ b = g.d) := by
  obtain ⟨_, _, _, a3, _⟩ := h.2.1
  exact fun e => e.elim (hb.ne a3 h1) (hb.ne h.2.2.1 h2)

theorem updL_old {L : MatL} {r : Row} {k i : Nat} {b : RG × Row} (hk : k ≤ L.length) (h : (updL L r k)[i]? = some (some b)) : ∃ b0 : RG × Row, L[i]? = some (some b0) ∧ b.1 = b0.1 := by
  rw [updL_get _ _ _ _ hk] at h
  split at h
  · cases hL : L[i]? with
    | none => rw [hL] at h; simp at h
    | some o =>
      rw [hL] at h
      cases o with
      | none => simp at h
      | some b0 => simp at h; subst h; exact ⟨b0, rfl, rfl⟩
  · exact ⟨b, h, rfl⟩

theorem rall_hit {wr w3 : World} {F : Nat → Prop} {n sz k : Nat} {L : MatL} {r : Row} {a : RG × Row} (hk : k < L.length) (ho : L[k]? = some (some a)) (hd : RDist L) (hall : RAll wr F n sz (updL L r k))
    (hf : Fr (fun q => q = a.1.w ∨ q = a.1.d) wr w3) (hr : RowRep w3 a.1 n sz (upd r a.2)) (hra : RowRep wr a.1 n sz a.2) : RAll w3 F n sz (updL L r (k + 1)) := by
  have hka : RowRep wr a.1 n sz a.2 ∧ F a.1.r ∧ F a.1.v ∧ F a.1.w ∧ F a.1.d := hall k a (by rw [updL_get _ _ _ _ (by omega), if_neg (by omega)]; exact ho)
  intro i b hb
  by_cases hik : i = k
  · subst hik
    rw [updL_get _ _ _ _ hk, if_pos (by omega), ho] at hb
    simp at hb
    subst hb
    exact ⟨hr, hka.2⟩
  · have hb' : (updL L r k)[i]? = some (some b) := by
      rw [updL_get _ _ _ _ (by omega)] at hb ⊢
      by_cases h : i < k
      · rw [if_pos (by omega)] at hb; rw [if_pos h]; exact hb
      · rw [if_neg (by omega)] at hb; rw [if_neg h]; exact hb
    obtain ⟨h1, h2⟩ := hall i b hb'
    obtain ⟨b0, hb0, e⟩ := updL_old (by omega) hb'
    have hne := hd i k b0 a hik hb0 ho
    rw [← e] at hne
    obtain ⟨k1, k2, k3, k4, k5, k6⟩ := h1.kinds hra
    exact ⟨h1.fr hf (fun h => h.elim k1 k2) (fun h => h.elim k3 k4) (fun h => h.elim hne.1 k5) (fun h => h.elim k6 hne.2), h2⟩

theorem rall_keep {wr : World} {F : Nat → Prop} {n sz k : Nat} {L : MatL} {r : Row} (hk : k < L.length) (hsame : ∀ a, L[k]? = some (some a) → upd r a.2 = a.2) (hall : RAll wr F n sz (updL L r k)) : RAll wr F n sz (updL L r (k + 1)) := by
  intro i b hb
  refine hall i b ?_
  rw [updL_get _ _ _ _ (by omega)] at hb ⊢
  by_cases h : i < k
  · rw [if_pos (by omega)] at hb; rw [if_pos h]; exact hb
  · rw [if_neg h]
    by_cases hik : i = k
    · subst hik
      rw [if_pos (by omega)] at hb
      cases hL : L[i]? with
      | none => rw [hL] at hb; simp at hb
      | some o =>
        rw [hL] at hb
        cases o with
        | none => simp at hb
        | some a =>
          simp at hb
          rw [← hb, hsame a hL]
    · rw [if_neg (by omega)] at hb; exact hb

set_option maxRecDepth 100000 in
/-- A row is offered. -/
theorem mat_add {w : World} {F : Nat → Prop} {bm n sz : Nat} {M : Mat} (h : MatRep w F bm n sz M) {bv bw x : Nat} (hv : VecRep w bv bw n x) (he : Env w) {G : Nat → Prop} {vd : Value} {d : List UInt8} (hd : SlAt G w vd (bytesV d)) (hl : d.length = sz)
    (hfree : says M x d = true → M[low (reduce M (x, d)).1]? = some none) :
    Calls Tryz.prog 21 #[.pointer (some ⟨bm, 0, none⟩), .pointer (some ⟨bv, 0, none⟩), vd] w fun e w' => e = .returned (.bool (says M x d)) ∧ (says M x d = false → Fr NoF w w') ∧ Fr F w w' ∧ MatRep w' (upF F w w') bm n sz (add M x d) := by
  have HM := Lib.hid h
  have HFR := Lib.hid hfree
  have hin := h.inF
  have hgl : gl ≤ w.heap.size := he.1
  obtain ⟨brs, L, hL, hn, hb, hbr, hall, hdist, hF1, hF2, _, n1, n2, s1, s2⟩ := h
  have c1 : w.cell? ⟨bm, 1, none⟩ = some (.int .i64 sz) := hb.cell 1 rfl
  have hpad : padL d sz = d := padL_full hl
  have hvd : ∃ p cap, vd = .slice p sz cap := by obtain ⟨p, cap, e, _⟩ := hd; exact ⟨p, cap, by rw [e, bytesV_length, hl]⟩
  obtain ⟨pd, cd, rfl⟩ := hvd
  have HD := Lib.hid hd
  have HPAD := Lib.hid hpad
  have HALL := Lib.hid hall
  have HDIST := Lib.hid hdist
  have HBM := Lib.hid hb
  have HBR := Lib.hid hbr
  have HLE := Lib.hid hL
  have HN := Lib.hid hn
  have HIN := Lib.hid hin
  have HLD := Lib.hid hl
  clear hfree hd hpad hall hdist hb hbr hL hn hin hl
  go_enter Tryz.func21, Tryz.ntmps21
  go_wp2_with fail
  refine (mat_reduced HM.out hv HD.out).mono ?_
  rintro e w1 ⟨g, rfl, hf, hr, b1, b2, b3, b4⟩
  rw [HPAD.out] at hr
  have he1 := he.frN hf
  have c0 : w1.cell? ⟨g.r, 0, none⟩ = some (.pointer (some ⟨g.v, 0, none⟩)) := hr.1.cell 0 rfl
  have HF := Lib.hid hf
  have HR := Lib.hid hr
  have HEN := Lib.hid he1
  clear hf hr he1
  by_cases h0 : (reduce M (x, d)).1 = 0
  · have hv0 : VecRep w1 g.v g.w n 0 := by rw [← h0]; exact HR.out.2.1
    have e : says M x d = false := by unfold says; rw [h0]; rfl
    have HE := Lib.hid e
    clear e h0
    go_wp2_with fail
    refine (vec_first_none hv0).mono ?_
    rintro e w2 ⟨rfl, rfl⟩
    go_wp2_with fail
    go_ret
    refine ⟨by rw [HE.out]; rfl, fun _ => HF.out, HF.out.no, ?_⟩
    have ea : add M x d = M := by unfold add; rw [HE.out]; simp
    rw [ea]
    exact (HM.out.frN HF.out).mono (fun _ h => .inl h) (HIN.out.up hgl HF.out.size)
  · have e : says M x d = true := by unfold says; simpa using h0
    have hlow := low_lt h0 HR.out.2.1.lt
    have HE := Lib.hid e
    have H0 := Lib.hid h0
    clear e h0
    obtain ⟨r, hr⟩ : ∃ r, r = reduce M (x, d) := ⟨_, rfl⟩
    rw [← hr] at HR H0 hlow
    have HRE := Lib.hid hr
    clear hr
    go_wp2_with fail
    refine (vec_first HR.out.2.1 H0.out HEN.out).mono ?_
    rintro e w2 ⟨rfl, rfl⟩
    go_wp2_with fail
    refine (vec_first HR.out.2.1 H0.out HEN.out).mono ?_
    rintro e w2 ⟨rfl, rfl⟩
    have cb2 := HF.out.cellN (HBM.out.cell 2 rfl)
    have HALL1 : Hid (RAll w1 F n sz (updL L r 0)) := by
      rw [updL_zero]
      intro i a ha
      obtain ⟨a1, a2⟩ := HALL.out i a ha
      exact ⟨a1.frN HF.out, a2⟩
    go_wp2_with fail
    go_loopw [46] (fun i wr => ∃ k : Nat, k ≤ n ∧ i = .int .i64 k ∧ Hid (Fr F w wr) ∧ Hid (w1.heap.size ≤ wr.heap.size) ∧ Hid (Blk wr bm #[.int .i64 n, .int .i64 sz, .slice (some ⟨brs, 0, none⟩) n n, .int .i64 (rank M : Nat)] 91) ∧ Hid (Blk wr brs (L.map ptrOf).toArray 97) ∧ Hid (RowRep wr g n sz r) ∧ Hid (RAll wr F n sz (updL L r k))) (fun i _ => n - (intOf i).toNat)
    case atStart => exact ⟨0, Nat.zero_le _, rfl, HF.out.no, Nat.le_refl _, HBM.out.frN HF.out, HBR.out.frN HF.out, HR, HALL1⟩
    case round =>
      clear cb2 HALL1 HALL HR HBM HBR
      obtain ⟨k, hk, rfl, HF2, HSZ, HBM, HBR, HR, HALL⟩ := hrel
      by_cases hlt : k < n
      · have hkL : k < L.length := by rw [HN.out]; exact hlt
        obtain ⟨o, ho⟩ : ∃ o, L[k]? = some o := ⟨L[k], List.getElem?_eq_getElem hkL⟩
        have hrow : wr.cell? ⟨brs, k, none⟩ = some (ptrOf o) := HBR.out.cell k (ptr_get ho)
        have HKL := Lib.hid hkL
        have HO := Lib.hid ho
        clear ho hkL
        cases o with
        | none =>
          replace hrow : wr.cell? ⟨brs, k, none⟩ = some (.pointer none) := hrow
          have HALL2 : Hid (RAll wr F n sz (updL L r (k + 1))) := rall_keep HKL.out (fun a ha => by rw [HO.out] at ha; simp at ha) HALL.out
          go_wp2_with fail
          go_roundw
          case rel => exact ⟨k + 1, by omega, by go_num, HF2, HSZ, HBM, HBR, HR, HALL2⟩
          case measure => simp [intOf]; omega
        | some a =>
          replace hrow : wr.cell? ⟨brs, k, none⟩ = some (.pointer (some ⟨a.1.r, 0, none⟩)) := hrow
          have hak : RowRep wr a.1 n sz a.2 ∧ F a.1.r ∧ F a.1.v ∧ F a.1.w ∧ F a.1.d := HALL.out k a (by rw [updL_get _ _ _ _ (by have := HKL.out; omega), if_neg (by omega)]; exact HO.out)
          have ca0 : wr.cell? ⟨a.1.r, 0, none⟩ = some (.pointer (some ⟨a.1.v, 0, none⟩)) := hak.1.1.cell 0 rfl
          have HAK := Lib.hid hak
          clear hak
          go_wp2_with fail
          refine (vec_has HAK.out.1.2.1 hlow).mono ?_
          rintro e w' ⟨rfl, rfl⟩
          by_cases hbit : a.2.1.testBit (low r.1) = true
          · have hup : upd r a.2 = xorR a.2 r := by unfold upd; rw [if_pos hbit]
            have HUP := Lib.hid hup
            obtain ⟨_, _, _, i3, i4⟩ := HAK.out
            have l3 := (HIN.out _ i3).2
            have l4 := (HIN.out _ i4).2
            clear hup
            go_wp2_with fail
            refine (row_xor HAK.out.1 HR.out (by omega) (by omega)).mono ?_
            rintro e w3 ⟨rfl, hf3, hr3⟩
            rw [← HUP.out] at hr3
            have HF3 : Hid (Fr F w w3) := HF2.out.trans hf3 fun i hi e => e.elim (fun e => e ▸ i3) (fun e => e ▸ i4)
            have HSZ3 : Hid (w1.heap.size ≤ w3.heap.size) := Nat.le_trans HSZ.out hf3.size
            have HBM3 : Hid (Blk w3 bm _ _) := HBM.out.fr hf3 (HAK.out.1.neB HBM.out (by decide) (by decide))
            have HBR3 : Hid (Blk w3 brs _ _) := HBR.out.fr hf3 (HAK.out.1.neB HBR.out (by decide) (by decide))
            have HR3 : Hid (RowRep w3 g n sz r) := HR.out.fr hf3 (by omega) (by omega) (by omega) (by omega)
            have HALL3 : Hid (RAll w3 F n sz (updL L r (k + 1))) := rall_hit HKL.out HO.out HDIST.out HALL.out hf3 hr3 HAK.out.1
            clear hf3 hr3
            go_wp2_with fail
            go_roundw
            case rel => exact ⟨k + 1, by omega, by go_num, HF3, HSZ3, HBM3, HBR3, HR3, HALL3⟩
            case measure => simp [intOf]; omega
          · have HALL2 : Hid (RAll wr F n sz (updL L r (k + 1))) := rall_keep HKL.out (fun b hb => by rw [HO.out] at hb; simp at hb; subst hb; unfold upd; rw [if_neg hbit]) HALL.out
            simp only [Bool.not_eq_true] at hbit
            go_wp2_with fail
            go_roundw
            case rel => exact ⟨k + 1, by omega, by go_num, HF2, HSZ, HBM, HBR, HR, HALL2⟩
            case measure => simp [intOf]; omega
      · have e : k = n := by omega
        subst e
        have hfr := HFR.out HE.out
        rw [← HRE.out] at hfr
        have hrk := rank_addR hfr
        have hrb : rank M ≤ k := by have := rank_le M; rw [← HLE.out, bare_length, HN.out] at this; rw [← HLE.out]; exact this
        have cb2 := HBM.out.cell 2 rfl
        have hLn : L[low r.1]? = some none := by
          rw [← HLE.out, bare_get] at hfr
          cases hL : L[low r.1]? with
          | none => rw [hL] at hfr; simp at hfr
          | some o => rw [hL] at hfr; cases o <;> simp at hfr ⊢
        have cat : wr.cell? ⟨brs, low r.1, none⟩ = some (.pointer none) := HBR.out.cell _ (ptr_get hLn)
        have zat := HBR.out.frozen (low r.1)
        have HRK := Lib.hid hrk
        have HLN := Lib.hid hLn
        clear hrk hLn hfr
        have hnb : bm ≠ brs := HBM.out.ne HBR.out (by decide)
        go_wp2_with fail
        have c3 : (wr.setCell ⟨brs, low r.1, none⟩ (.pointer (some ⟨g.r, 0, none⟩))).cell? ⟨bm, 3, none⟩ = some (.int .i64 (rank M : Nat)) := (HBM.out.setCell_ne (by show brs ≠ bm; omega) _).cell 3 rfl
        have z3 := (HBM.out.setCell_ne (a := ⟨brs, low r.1, none⟩) (by show brs ≠ bm; omega) (.pointer (some ⟨g.r, 0, none⟩))).frozen 3
        refine (at_add_i64 (by omega) c3 z3).mono ?_
        rintro e w5 ⟨rfl, rfl⟩
        go_wp2_with fail
        go_ret
        have hsz : wr.heap.size = ((wr.setCell ⟨brs, low r.1, none⟩ (.pointer (some ⟨g.r, 0, none⟩))).setCell ⟨bm, 3, none⟩ (.int .i64 (rank M + 1 : Nat))).heap.size := by simp [World.setCell]
        have hfr5 : Fr F w ((wr.setCell ⟨brs, low r.1, none⟩ (.pointer (some ⟨g.r, 0, none⟩))).setCell ⟨bm, 3, none⟩ (.int .i64 (rank M + 1 : Nat))) := (HF2.out.setCell (fun _ => hF2) _).setCell (fun _ => hF1) _
        have hup : ∀ q, w.heap.size ≤ q → q < wr.heap.size → upF F w ((wr.setCell ⟨brs, low r.1, none⟩ (.pointer (some ⟨g.r, 0, none⟩))).setCell ⟨bm, 3, none⟩ (.int .i64 (rank M + 1 : Nat))) q := fun q h1 h2 => .inr ⟨h1, by rw [← hsz]; exact h2⟩
        have hall := HALL.out
        rw [show k = L.length from HN.out.symm, updL_all] at hall
        have gr := HR.out
        have keep : ∀ {g' : RG} {y : Row}, RowRep wr g' L.length sz y → RowRep ((wr.setCell ⟨brs, low r.1, none⟩ (.pointer (some ⟨g.r, 0, none⟩))).setCell ⟨bm, 3, none⟩ (.int .i64 (rank M + 1 : Nat))) g' L.length sz y := by
          intro g' y h'
          obtain ⟨_, _, v1, v2, _⟩ := id h'.2.1
          have e : ∀ {b : Nat} {c : Array Value} {T : TypeId}, Blk wr b c T → T ≠ 97 → T ≠ 91 → ((wr.setCell ⟨brs, low r.1, none⟩ (.pointer (some ⟨g.r, 0, none⟩))).setCell ⟨bm, 3, none⟩ (.int .i64 (rank M + 1 : Nat))).heap[b]? = wr.heap[b]? := fun hb t1 t2 =>
            (Below.heap_setCell _ _ _ _ (hb.ne HBM.out t2)).trans (Below.heap_setCell _ _ _ _ (hb.ne HBR.out t1))
          exact h'.eq (e h'.1 (by decide) (by decide)) (e v1 (by decide) (by decide)) (e v2 (by decide) (by decide)) (e h'.2.2.1 (by decide) (by decide))
        refine ⟨by rw [HE.out]; rfl, fun h => by rw [HE.out] at h; simp at h, hfr5, brs, (L.map (Option.map fun a => (a.1, upd r a.2))).set (low r.1) (some (g, r)), ?_, ?_, ?_, ?_, ?_, ?_, .inl hF1, .inl hF2, HIN.out.up hgl hfr5.size, n1, n2, s1, s2⟩
        · unfold bare add
          rw [List.map_set, HE.out, if_pos rfl, ← HRE.out, addR, ← HLE.out, ← bare_upd]
          rfl
        · simp [HN.out]
        · have ea : rank (add M x d) = rank M + 1 := by unfold add; rw [HE.out, if_pos rfl, ← HRE.out, HRK.out]
          rw [ea]
          exact (HBM.out.setCell_ne (by show brs ≠ bm; omega) _).setCell 3 _
        · have := (HBR.out.setCell (low r.1) (.pointer (some ⟨g.r, 0, none⟩))).setCell_ne (a := ⟨bm, 3, none⟩) hnb (.int .i64 (rank M + 1 : Nat))
          rw [List.map_set, ptr_upd]
          rw [List.setIfInBounds_toArray] at this
          exact this
        · intro i b hb
          rw [← HN.out] at gr ⊢
          by_cases hi : i = low r.1
          · subst hi
            rw [List.getElem?_set_self (by simp [HN.out]; exact hlow)] at hb
            simp at hb
            subst hb
            have hs := HSZ.out
            obtain ⟨_, _, v1, v2, _⟩ := id gr.2.1
            exact ⟨keep gr, hup _ b1 gr.1.lt, hup _ b2 v1.lt, hup _ b3 v2.lt, hup _ b4 gr.2.2.1.lt⟩
          · rw [List.getElem?_set_ne (by omega)] at hb
            obtain ⟨h1, h2, h3, h4, h5⟩ := hall i b hb
            exact ⟨keep h1, .inl h2, .inl h3, .inl h4, .inl h5⟩
        · have old : ∀ (i : Nat) (b : RG × Row), i ≠ low r.1 → ((L.map (Option.map fun a => (a.1, upd r a.2))).set (low r.1) (some (g, r)))[i]? = some (some b) → ∃ b0 : RG × Row, L[i]? = some (some b0) ∧ b.1 = b0.1 ∧ F b.1.w ∧ F b.1.d := by
            intro i b hi hb
            rw [List.getElem?_set_ne (by omega)] at hb
            obtain ⟨h1, h2, h3, h4, h5⟩ := hall i b hb
            rw [← updL_all L r] at hb
            obtain ⟨b0, e1, e2⟩ := updL_old (Nat.le_refl _) hb
            exact ⟨b0, e1, e2, h4, h5⟩
          have self : ∀ b : RG × Row, ((L.map (Option.map fun a => (a.1, upd r a.2))).set (low r.1) (some (g, r)))[low r.1]? = some (some b) → b = (g, r) := by
            intro b hb
            rw [List.getElem?_set_self (by simp [HN.out]; exact hlow)] at hb
            simp at hb
            exact hb.symm
          intro i j a b hij ha hb
          by_cases hi : i = low r.1
          · subst hi
            obtain rfl := self a ha
            obtain ⟨b0, _, _, f1, f2⟩ := old j b (by omega) hb
            have q1 := (HIN.out _ f1).2
            have q2 := (HIN.out _ f2).2
            exact ⟨by show g.w ≠ _; omega, by show g.d ≠ _; omega⟩
          · by_cases hj : j = low r.1
            · subst hj
              obtain rfl := self b hb
              obtain ⟨b0, _, _, f1, f2⟩ := old i a hi ha
              have q1 := (HIN.out _ f1).2
              have q2 := (HIN.out _ f2).2
              exact ⟨by show _ ≠ g.w; omega, by show _ ≠ g.d; omega⟩
            · obtain ⟨a0, e1, e2, _⟩ := old i a hi ha
              obtain ⟨b0, e3, e4, _⟩ := old j b hj hb
              rw [e2, e4]
              exact HDIST.out i j a0 b0 hij e1 e3


theorem RowRep.data {w : World} {g : RG} {n sz : Nat} {y : Row} (h : RowRep w g n sz y) : SlAt (· = g.d) w (.slice (some ⟨g.d, 0, none⟩) sz sz) (bytesV y.2) := by
  obtain ⟨_, _, h3, h4, _⟩ := h
  refine ⟨_, sz, by rw [bytesV_length, h4], ⟨fun h => by simp at h, by rw [bytesV_length, h4]; exact Nat.le_refl _⟩, fun _ => ⟨g.d, 0, rfl, rfl, h3.lt, fun j hj => ?_⟩⟩
  rw [Nat.zero_add, h3.cellEq]
  simp [List.getElem?_eq_getElem hj]

/-- A slice of slices of bytes that the call owns, rows and all. -/
def BsOwn (w : World) (B : Nat) (v : Value) (bs : List (List UInt8)) : Prop :=
  ∃ vs : List Value, w.ownsRow B 28 1 v bs.length vs ∧ vs.length = bs.length ∧ ∀ (j : Nat) (u : Value) (b : List UInt8), vs[j]? = some u → bs[j]? = some b → w.ownsRow B 5 1 u b.length (bytesV b)
theorem BsOwn.frN {w w' : World} {B : Nat} {v : Value} {bs : List (List UInt8)} (h : BsOwn w B v bs) (hf : Fr NoF w w') : BsOwn w' B v bs := by
  obtain ⟨vs, h1, h2, h3⟩ := h
  exact ⟨vs, ownsRow_frN h1 hf, h2, fun j u b hu hb => ownsRow_frN (h3 j u b hu hb) hf⟩
theorem BsOwn.base {w : World} {B B' : Nat} {v : Value} {bs : List (List UInt8)} (h : BsOwn w B v bs) (hB : B' ≤ B) : BsOwn w B' v bs := by
  obtain ⟨vs, h1, h2, h3⟩ := h
  exact ⟨vs, ownsRow_base h1 hB, h2, fun j u b hu hb => ownsRow_base (h3 j u b hu hb) hB⟩
theorem BsOwn.nil (w : World) (B : Nat) : BsOwn w B (.slice none 0 0) [] := ⟨[], ⟨rfl, .inl ⟨rfl, rfl⟩⟩, rfl, fun j u b hu => by simp at hu⟩
theorem info_bs : (Tryz.prog.info? 28).map (fun i => (i.zero, i.size, i.bytes)) = some (some (.slice none 0 0), 1, 24) := by kernel_rfl

/-- One more: behind the append. -/
theorem BsOwn.snoc {w w' : World} {B : Nat} {v v' u : Value} {bs : List (List UInt8)} {b : List UInt8} {vs : List Value} (h1 : w.ownsRow B 28 1 v bs.length vs) (h2 : vs.length = bs.length)
    (h3 : ∀ (j : Nat) (u : Value) (b : List UInt8), vs[j]? = some u → bs[j]? = some b → w.ownsRow B 5 1 u b.length (bytesV b)) (hu : w.ownsRow B 5 1 u b.length (bytesV b))
    (ho : w'.ownsRow B 28 1 v' (bs.length + 1) (vs ++ [u])) (hf : Fr (fun k => v.ownBlock = some k) w w') : BsOwn w' B v' (bs ++ [b]) := by
  refine ⟨vs ++ [u], by rw [List.length_append]; exact ho, by simp [h2], fun j u' b' hu' hb' => ?_⟩
  rcases Nat.lt_or_ge j bs.length with hj | hj
  · rw [List.getElem?_append_left (by omega)] at hu' hb'
    exact ownsRow_own (h3 j u' b' hu' hb') h1 hf (by decide)
  · rw [List.getElem?_append_right (by omega)] at hu' hb'
    have : j = bs.length := by
      rcases Nat.eq_zero_or_pos (j - bs.length) with h0 | h0
      · omega
      · rw [List.getElem?_eq_none (by simp; omega)] at hb'; simp at hb'
    subst this
    simp [h2] at hu' hb'
    subst hu' hb'
    exact ownsRow_own hu h1 hf (by decide)

set_option maxRecDepth 100000 in
/-- Data of another length. -/
theorem mat_add_bad {w : World} {F : Nat → Prop} {bm n sz : Nat} {M : Mat} (h : MatRep w F bm n sz M) (v : Value) {p : Option Addr} {l c : Nat} (hl : l ≠ sz) :
    Calls Tryz.prog 21 #[.pointer (some ⟨bm, 0, none⟩), v, .slice p l c] w fun e w' => e = .returned (.bool false) ∧ Fr NoF w w' := by
  obtain ⟨brs, L, hL, hn, hb, hbr, hall, hdist, hF1, hF2, _, n1, n2, s1, s2⟩ := h
  have c1 : w.cell? ⟨bm, 1, none⟩ = some (.int .i64 sz) := hb.cell 1 rfl
  clear hb hbr hall hdist hL
  go_enter Tryz.func21, Tryz.ntmps21
  go_wp2_with fail
  go_ret
  exact ⟨rfl, Fr.refl _ _⟩

set_option maxRecDepth 100000 in
/-- The data of all columns. -/
theorem mat_solve {w : World} {F : Nat → Prop} {bm n sz : Nat} {rs : List Row} (h : MatRep w F bm n sz (rs.map some)) :
    Calls Tryz.prog 32 #[.pointer (some ⟨bm, 0, none⟩)] w fun e w' => ∃ v, e = .returned v ∧ Fr NoF w w' ∧ BsOwn w' w.heap.size v (rs.map Prod.snd) := by
  have HM := Lib.hid h
  have hok := h.ok
  obtain ⟨brs, L, hL, hn, hb, hbr, hall, hdist, hF1, hF2, hin, n1, n2, s1, s2⟩ := h
  have hrn : rs.length = n := by have := hok.1; simpa using this
  have hfull : decide (rank (rs.map some) = n) = true := by
    have : rank (rs.map some) = rs.length := by unfold rank; simp [List.filter_map]
    simp [this, hrn]
  have HALL := Lib.hid hall
  have HBM := Lib.hid hb
  have HBR := Lib.hid hbr
  have HLE := Lib.hid hL
  have HN := Lib.hid hn
  have HRN := Lib.hid hrn
  clear hall hb hbr hL hn hin hdist hok hrn
  go_enter Tryz.func32, Tryz.ntmps32
  go_wp2_with fail
  refine (mat_full HM.out).mono ?_
  rintro e w1 ⟨rfl, hf⟩
  have cb2 := hf.cellN (HBM.out.cell 2 rfl)
  have HF := Lib.hid hf
  clear hf
  rw [hfull]
  clear hfull
  go_wp2_with fail
  go_loopw [3, 14] (fun v i wr => ∃ k : Nat, k ≤ n ∧ i = .int .i64 k ∧ Hid (Fr NoF w wr) ∧ Hid (BsOwn wr w.heap.size v ((rs.take k).map Prod.snd))) (fun _ i _ => n - (intOf i).toNat)
  case atStart => exact ⟨0, Nat.zero_le _, rfl, HF, BsOwn.nil _ _⟩
  case round =>
    obtain ⟨k, hk, rfl, HF2, HO⟩ := hrel
    by_cases hlt : k < n
    · have hkr : k < rs.length := by rw [HRN.out]; exact hlt
      have hLk : ∃ a : RG × Row, L[k]? = some (some a) ∧ a.2 = rs[k] := by
        have h2 := bare_get L k
        rw [HLE.out, List.getElem?_map, List.getElem?_eq_getElem hkr] at h2
        cases hL : L[k]? with
        | none => rw [hL] at h2; simp at h2
        | some o =>
          rw [hL] at h2
          cases o with
          | none => simp at h2
          | some a => exact ⟨a, rfl, by simpa using h2.symm⟩
      obtain ⟨a, hLa, ha⟩ := hLk
      obtain ⟨hra, _⟩ := HALL.out k a hLa
      have c1 : wr.cell? ⟨brs, k, none⟩ = some (.pointer (some ⟨a.1.r, 0, none⟩)) := HF2.out.cellN (HBR.out.cell k (ptr_get hLa))
      have c2 : wr.cell? ⟨a.1.r, 1, none⟩ = some (.slice (some ⟨a.1.d, 0, none⟩) sz sz) := HF2.out.cellN (hra.1.cell 1 rfl)
      have HD : Hid (SlAt (· = a.1.d) wr (.slice (some ⟨a.1.d, 0, none⟩) sz sz) (bytesV rs[k].2)) := by rw [← ha]; exact hra.data.frN HF2.out
      have HL2 : Hid (rs[k].2.length = sz) := by rw [← ha]; exact hra.2.2.2.1
      have htk : (rs.take (k + 1)).map Prod.snd = (rs.take k).map Prod.snd ++ [rs[k].2] := by rw [List.take_succ_eq_append_getElem hkr, List.map_append]; rfl
      have HTK := Lib.hid htk
      clear hLa ha hra htk
      go_wp2_with fail
      refine (clone_u8 HD.out (bytesV_one _) (by rw [bytesV_length, HL2.out]; omega)).mono ?_
      rintro e w3 ⟨u, rfl, hf3, ho3⟩
      rw [bytesV_length] at ho3
      obtain ⟨vs, hv1, hv2, hv3⟩ := HO.out.frN hf3
      have hu : w3.ownsRow w.heap.size 5 1 u rs[k].2.length (bytesV rs[k].2) := ownsRow_base ho3 HF2.out.size
      obtain ⟨pu, cu, rfl⟩ := ownsRow_slice hu
      have HF3 : Hid (Fr NoF w w3) := HF2.out.transN hf3
      have hlen : ((rs.take k).map Prod.snd).length = k := by simp; omega
      have HU := Lib.hid hu
      have HV1 := Lib.hid hv1
      have HV2 := Lib.hid hv2
      have HV3 := Lib.hid hv3
      have HLEN := Lib.hid hlen
      clear hf3 ho3 hu hv1 hv2 hv3 hlen
      go_wp2_with (at_builtin; refine wpList_append_one' _ rfl _ _ 73 rfl w.heap.size 28 _ 24 Tryz.underlying73 info_bs rfl _ _ _ rfl HV1.out (.slice pu rs[k].2.length cu) rfl rfl (by rw [HLEN.out]; omega) (by decide) HF3.out.size ?_)
      intro v' w' ho hf
      have HF4 : Hid (Fr NoF w w') := HF3.out.transB (hf.own HV1.out)
      have HO4 : Hid (BsOwn w' w.heap.size v' ((rs.take (k + 1)).map Prod.snd)) := by
        show BsOwn w' w.heap.size v' ((rs.take (k + 1)).map Prod.snd)
        rw [HTK.out]
        have em : min k rs.length = k := by have := HRN.out; omega
        rw [em] at ho
        exact BsOwn.snoc HV1.out HV2.out HV3.out HU.out (by rw [HLEN.out]; exact ho) hf
      clear ho hf
      go_wp2_with fail
      go_roundw
      case rel => exact ⟨k + 1, by omega, by go_num, HF4, HO4⟩
      case measure => simp [intOf]; omega
    · have e : k = n := by omega
      subst e
      go_wp2_with fail
      go_ret
      have ho := HO.out
      rw [List.take_of_length_le (by rw [HRN.out]; exact Nat.le_refl _)] at ho
      exact ⟨_, rfl, HF2.out, ho⟩
end Go.Proofs.YtamdmkjejpkbiaaGreatDoor
