/- A matrix in memory: what the functions of package elim do to it. -/
import Derived.Test.YtamdmkjejpkbiaaGreatDoorElim
import Derived.Test.YtamdmkjejpkbiaaGreatDoorBlockP
import Derived.Deep.DeepCutAuto
namespace Go.Proofs.YtamdmkjejpkbiaaGreatDoor
open Go Go.RowKit Go.Proofs

/-- A matrix with where its rows lie. -/
abbrev MatL := List (Option (RG × Row))
/-- The matrix alone. -/
def bare (L : MatL) : Mat := L.map (Option.map Prod.snd)
/-- What lies at a place of the rows' slice. -/
def ptrOf : Option (RG × Row) → Value
  | none => .pointer none
  | some g => .pointer (some ⟨g.1.r, 0, none⟩)
/-- Rows at different places share nothing that is written. -/
def RDist (L : MatL) : Prop := ∀ (i j : Nat) (a b : RG × Row), i ≠ j → L[i]? = some (some a) → L[j]? = some (some b) → a.1.w ≠ b.1.w ∧ a.1.d ≠ b.1.d
/-- All rows lie. -/
def RAll (w : World) (F : Nat → Prop) (n sz : Nat) (L : MatL) : Prop := ∀ (i : Nat) (a : RG × Row), L[i]? = some (some a) → RowRep w a.1 n sz a.2 ∧ F a.1.r ∧ F a.1.v ∧ F a.1.w ∧ F a.1.d

/-- A matrix at block bm. -/
def MatRep (w : World) (F : Nat → Prop) (bm n sz : Nat) (M : Mat) : Prop :=
  ∃ (brs : Nat) (L : MatL), bare L = M ∧ L.length = n ∧ Blk w bm #[.int .i64 n, .int .i64 sz, .slice (some ⟨brs, 0, none⟩) n n, .int .i64 (rank M : Nat)] 91 ∧
    Blk w brs (L.map ptrOf).toArray 97 ∧ RAll w F n sz L ∧ RDist L ∧ F bm ∧ F brs ∧ InF F w ∧ 1 ≤ n ∧ n ≤ 256 ∧ 1 ≤ sz ∧ sz ≤ 16

theorem MatRep.inF {w : World} {F : Nat → Prop} {bm n sz : Nat} {M : Mat} (h : MatRep w F bm n sz M) : InF F w := by obtain ⟨_, _, _, _, _, _, _, _, _, _, h, _⟩ := h; exact h
theorem MatRep.eq {w w' : World} {F : Nat → Prop} {bm n sz : Nat} {M : Mat} (h : MatRep w F bm n sz M) (he : ∀ k, F k → w'.heap[k]? = w.heap[k]?) (hs : w.heap.size ≤ w'.heap.size) : MatRep w' F bm n sz M := by
  obtain ⟨brs, L, h1, h2, h3, h4, h5, h6, h7, h8, h9, h10⟩ := h
  refine ⟨brs, L, h1, h2, h3.eq (he _ h7), h4.eq (he _ h8), fun i a ha => ?_, h6, h7, h8, h9.le hs, h10⟩
  obtain ⟨a1, a2, a3, a4, a5⟩ := h5 i a ha
  exact ⟨a1.eq (he _ a2) (he _ a3) (he _ a4) (he _ a5), a2, a3, a4, a5⟩
theorem MatRep.fr {w w' : World} {F G : Nat → Prop} {bm n sz : Nat} {M : Mat} (h : MatRep w F bm n sz M) (hf : Fr G w w') (ha : Apart F G) : MatRep w' F bm n sz M :=
  h.eq (fun k hk => hf.block k (h.inF k hk).2 (ha k hk)) hf.size
theorem MatRep.frN {w w' : World} {F : Nat → Prop} {bm n sz : Nat} {M : Mat} (h : MatRep w F bm n sz M) (hf : Fr NoF w w') : MatRep w' F bm n sz M := h.fr hf fun _ _ g => g
theorem MatRep.mono {w : World} {F G : Nat → Prop} {bm n sz : Nat} {M : Mat} (h : MatRep w F bm n sz M) (hF : ∀ k, F k → G k) (hG : InF G w) : MatRep w G bm n sz M := by
  obtain ⟨brs, L, h1, h2, h3, h4, h5, h6, h7, h8, h9, h10⟩ := h
  refine ⟨brs, L, h1, h2, h3, h4, fun i a ha => ?_, h6, hF _ h7, hF _ h8, hG, h10⟩
  obtain ⟨a1, a2, a3, a4, a5⟩ := h5 i a ha
  exact ⟨a1, hF _ a2, hF _ a3, hF _ a4, hF _ a5⟩
theorem bare_length (L : MatL) : (bare L).length = L.length := by simp [bare]
theorem bare_get (L : MatL) (i : Nat) : (bare L)[i]? = (L[i]?).map (Option.map Prod.snd) := by simp [bare]
theorem MatRep.ok {w : World} {F : Nat → Prop} {bm n sz : Nat} {M : Mat} (h : MatRep w F bm n sz M) : MatOk n sz M := by
  obtain ⟨brs, L, h1, h2, h3, h4, h5, _⟩ := h
  refine ⟨by rw [← h1, bare_length, h2], fun i r hr => ?_⟩
  rw [← h1, bare_get] at hr
  cases hL : L[i]? with
  | none => rw [hL] at hr; simp at hr
  | some o =>
    cases o with
    | none => rw [hL] at hr; simp at hr
    | some a =>
      rw [hL] at hr
      simp at hr
      obtain ⟨a1, _⟩ := h5 i a hL
      subst hr
      exact ⟨a1.2.1.lt, a1.2.2.2.1⟩
theorem ptr_get {L : MatL} {i : Nat} {o : Option (RG × Row)} (h : L[i]? = some o) : (L.map ptrOf).toArray[i]? = some (ptrOf o) := by simp [h]

theorem info_prow : (Tryz.prog.info? 97).map (fun i => (i.zero, i.size, i.bytes)) = some (some (.pointer none), 1, 8) := by kernel_rfl
theorem info_u8 : (Tryz.prog.info? 5).map (fun i => (i.zero, i.size, i.bytes)) = some (some (.int .u8 0), 1, 1) := by kernel_rfl

theorem make_prow (l : Int) (h0 : 0 ≤ l) (h : l ≤ 1000000) (w : World) :
    (Instr.makeSlice 89 (.int .i64 l) (.int .i64 l)).run Tryz.prog w = .ok (.slice (some ⟨w.heap.size, 0, none⟩) l.toNat l.toNat) (w.alloc (.cells (Array.replicate l.toNat (.pointer none)) 97)) := by
  obtain ⟨i0, hi, hz0, hz1, hz2⟩ := info_parts info_prow
  exact run_make_flat _ _ i0 _ Tryz.underlying89 hi hz0 rfl hz1 l h0 (by rw [hz2]; omega) (by omega) w
theorem make_u8 (l : Int) (h0 : 0 ≤ l) (h : l ≤ 1000000) (w : World) :
    (Instr.makeSlice 28 (.int .i64 l) (.int .i64 l)).run Tryz.prog w = .ok (.slice (some ⟨w.heap.size, 0, none⟩) l.toNat l.toNat) (w.alloc (.cells (Array.replicate l.toNat (.int .u8 0)) 5)) := by
  obtain ⟨i0, hi, hz0, hz1, hz2⟩ := info_parts info_u8
  exact run_make_flat _ _ i0 _ Tryz.underlying28 hi hz0 rfl hz1 l h0 (by rw [hz2]; omega) (by omega) w

set_option maxRecDepth 100000 in
/-- A matrix without rows. -/
theorem mat_new {w : World} (n sz : Nat) (h1 : 1 ≤ n) (h2 : n ≤ 256) (h3 : 1 ≤ sz) (h4 : sz ≤ 16) (hg : gl ≤ w.heap.size) :
    Calls Tryz.prog 19 #[.int .i64 n, .int .i64 sz] w fun e w' => ∃ bm, e = .returned (.pointer (some ⟨bm, 0, none⟩)) ∧ Fr NoF w w' ∧ MatRep w' (upF NoF w w') bm n sz (mat0 n) := by
  have hmk := make_prow n (by omega) (by omega)
  rw [Int.toNat_natCast] at hmk
  go_enter Tryz.func19, Tryz.ntmps19
  go_wp2
  go_ret
  refine ⟨_, rfl, ((Fr.refl _ _).alloc _).alloc _, w.heap.size, List.replicate n none, by simp [bare, mat0], by simp, ?_, ?_, fun i a h => ?_, fun i j a b hij h => ?_, ?_, ?_, (InF.no w).up hg (by simp; omega), h1, h2, h3, h4⟩
  · rw [rank_mat0]
    exact Blk.newAt (by simp) _ _
  · have e : (List.map ptrOf (List.replicate n none)).toArray = Array.replicate n (Value.pointer none) := by simp [ptrOf]
    rw [e]
    exact (Blk.new _ _ _).alloc _
  · simp only [List.getElem?_replicate] at h; split at h <;> simp at h
  · simp only [List.getElem?_replicate] at h; split at h <;> simp at h
  · exact .inr ⟨by simp, by simp⟩
  · exact .inr ⟨by simp, by simp; omega⟩

theorem row_fresh {w : World} {r v ww d n sz x : Nat} (h1 : Blk w r #[.pointer (some ⟨v, 0, none⟩), .slice (some ⟨d, 0, none⟩) sz sz] 100) (h2 : VecRep w v ww n x) (h3 : Blk w d (Array.replicate sz (.int .u8 0)) 5) (s1 : 1 ≤ sz) (s2 : sz ≤ 16) :
    RowRep w ⟨r, v, ww, d⟩ n sz (x, List.replicate sz 0) := by
  refine ⟨h1, h2, ?_, by simp, s1, s2⟩
  have e : (bytesV (List.replicate sz 0)).toArray = Array.replicate sz (.int .u8 0) := by simp [bytesV, byteV]
  rw [e]
  exact h3
theorem pad_bytes (d : List UInt8) (sz : Nat) : (bytesV d).take sz ++ (bytesV (List.replicate sz 0)).drop (min (bytesV d).length sz) = bytesV (padL d sz) := by
  simp [bytesV, padL]

set_option maxRecDepth 100000 in
/-- A row less what the rows say of it. -/
theorem mat_reduced {w : World} {F : Nat → Prop} {bm n sz : Nat} {M : Mat} (h : MatRep w F bm n sz M) {bv bw x : Nat} (hv : VecRep w bv bw n x) {G : Nat → Prop} {vd : Value} {d : List UInt8} (hd : SlAt G w vd (bytesV d)) :
    Calls Tryz.prog 43 #[.pointer (some ⟨bm, 0, none⟩), .pointer (some ⟨bv, 0, none⟩), vd] w fun e w' => ∃ g : RG, e = .returned (.pointer (some ⟨g.r, 0, none⟩)) ∧ Fr NoF w w' ∧
      RowRep w' g n sz (reduce M (x, padL d sz)) ∧ w.heap.size ≤ g.r ∧ w.heap.size ≤ g.v ∧ w.heap.size ≤ g.w ∧ w.heap.size ≤ g.d := by
  have hok := h.ok
  obtain ⟨brs, L, hL, hn, hb, hbr, hall, hdist, hF1, hF2, hin, n1, n2, s1, s2⟩ := h
  have a0 : w.cell? ⟨bm, 0, none⟩ = some (.int .i64 n) := hb.cell 0 rfl
  have a1 : w.cell? ⟨bm, 1, none⟩ = some (.int .i64 sz) := hb.cell 1 rfl
  have hmk := make_u8 sz (by omega) (by omega)
  rw [Int.toNat_natCast] at hmk
  have HV := Lib.hid hv
  have HD := Lib.hid hd
  have HALL := Lib.hid hall
  have HBM := Lib.hid hb
  have HBR := Lib.hid hbr
  have HLE := Lib.hid hL
  have HN := Lib.hid hn
  clear hv hd hall hdist hb hbr hL hn hin
  go_enter Tryz.func43, Tryz.ntmps43
  go_wp2_with fail
  go_quiet ((go_at_call 57; exact Calls.quiet_of_same ((vec_len (HV.out.frN ((Fr.refl _ _).drewN _))).mono fun e w' h => ⟨h.1, h.2.symm⟩)))
  go_wp2_with fail
  have HF0 : Hid (Fr NoF w (w.drewN nq)) := (Fr.refl _ _).drewN _
  go_cut [7] (fun s7 wx => ∃ g : RG, s7 = .pointer (some ⟨g.r, 0, none⟩) ∧ Hid (Fr NoF w wx) ∧ Hid (RowRep wx g n sz (x, List.replicate sz 0)) ∧ w.heap.size ≤ g.r ∧ w.heap.size ≤ g.v ∧ w.heap.size ≤ g.w ∧ w.heap.size ≤ g.d)
  case first =>
    go_region_held3 (fun w' => Fr NoF w w' ∧ w'.cell? ⟨bm, 1, none⟩ = some (.int .i64 sz)) (first | exact ⟨(Fr.refl _ _).drewN _, a1⟩ | exact ⟨((Fr.refl _ _).drewN _).drew, a1⟩ | exact ⟨Fr.alloc (And.left (by assumption)) _, by go_keep⟩ | exact ⟨by assumption, by assumption⟩)
      (first | (go_at_call 64; refine (vec_copy (HV.out.frN (And.left (by assumption)))).mono ?_; rintro e w1 ⟨bv', bw', rfl, hf, hv, h1, h2⟩; have hS1 : Fr NoF w w1 := Fr.trans' (And.left (by assumption)) hf; have hS2 := hS1.cellN a1; have hb1 : w.heap.size ≤ bv' := Nat.le_trans (Fr.size (And.left (by assumption))) h1; have hb2 : w.heap.size ≤ bw' := Nat.le_trans (Fr.size (And.left (by assumption))) h2; have HF1 := Lib.hid hf; have HV1 := Lib.hid hv; clear hf hv h1 h2))
    all_goals go_wp2_with fail
    all_goals go_meet
    · exact ⟨⟨w1.heap.size + 1, bv', bw', w1.heap.size⟩, rfl, (hS1.alloc _).alloc _, row_fresh (Blk.newAt (by simp) _ _) (HV1.out.frN (((Fr.refl _ _).alloc _).alloc _)) ((Blk.new _ _ _).alloc _) s1 s2, by have := hS1.size; simp; omega, hb1, hb2, hS1.size⟩
    · exact ⟨⟨w1.heap.size, bv', bw', w.heap.size⟩, rfl, hS1.alloc _, row_fresh (Blk.new _ _ _) (HV1.out.frN ((Fr.refl _ _).alloc _)) (((Blk.new (w.drewN (nq + 1)) (Array.replicate sz (.int .u8 0)) 5).frN HF1.out).alloc _) s1 s2, hS1.size, hb1, hb2, Nat.le_refl _⟩
  case rest =>
    obtain ⟨g, rfl, HFC, HRC, b1, b2, b3, b4⟩ := hcut
    have c1 : wc.cell? ⟨g.r, 1, none⟩ = some (.slice (some ⟨g.d, 0, none⟩) sz sz) := HRC.out.1.cell 1 rfl
    have HDC : Hid (SlAt G wc vd (bytesV d)) := HD.out.frN HFC.out
    have HBD : Hid (Blk wc g.d (bytesV (List.replicate sz 0)).toArray 5) := HRC.out.2.2.1
    go_wp2_with (refine wpList_copy_sl (o := ⟨some 35, _, _, _, _, _⟩) rfl (.tmp 33) (.tmp 34) 28 28 rfl 5 Tryz.underlying28 (by kernel_rfl) g.d sz sz (bytesV (List.replicate sz 0)) 5 rfl HBD.out (by simp [bytesV]) G vd (bytesV d) rfl HDC.out (bytesV_one d) ?_)
    intro w2 hb2 hf2
    rw [pad_bytes] at hb2
    have HR2 : Hid (RowRep w2 g n sz (x, padL d sz)) := by
      obtain ⟨m1, m2, m3, m4, m5, m6⟩ := HRC.out.kinds HRC.out
      exact ⟨HRC.out.1.fr hf2 m2, HRC.out.2.1.fr hf2 m4 m5, hb2, padL_length _ _, s1, s2⟩
    have HF2 : Hid (Fr NoF w w2) := HFC.out.trans hf2 fun i hi e => by omega
    have cb2 := HF2.out.cellN (HBM.out.cell 2 rfl)
    clear hb2 hf2 c1
    go_wp2_with fail
    go_loopw [41] (fun i wr => ∃ k : Nat, k ≤ n ∧ i = .int .i64 k ∧ Hid (Fr NoF w wr) ∧ Hid (RowRep wr g n sz (redAt M (x, padL d sz) k))) (fun i _ => n - (intOf i).toNat)
    case atStart => exact ⟨0, Nat.zero_le _, rfl, HF2, HR2⟩
    case round =>
      clear HF2 HR2 cb2 HBD HDC HFC HRC
      obtain ⟨k, hk, rfl, HF2, HR2⟩ := hrel
      have cr0 : wr.cell? ⟨g.r, 0, none⟩ = some (.pointer (some ⟨g.v, 0, none⟩)) := HR2.out.1.cell 0 rfl
      by_cases hlt : k < n
      · have hkL : k < L.length := by rw [HN.out]; exact hlt
        obtain ⟨o, ho⟩ : ∃ o, L[k]? = some o := ⟨L[k], List.getElem?_eq_getElem hkL⟩
        have hMo : M[k]?.getD none = o.map Prod.snd := by rw [← HLE.out, bare_get, ho]; rfl
        have hrow : wr.cell? ⟨brs, k, none⟩ = some (ptrOf o) := HF2.out.cellN (HBR.out.cell k (ptr_get ho))
        have HMO := Lib.hid hMo
        have HO := Lib.hid ho
        clear hMo ho hkL
        cases o with
        | none =>
          replace hrow : wr.cell? ⟨brs, k, none⟩ = some (.pointer none) := hrow
          have HR3 : Hid (RowRep wr g n sz (redAt M (x, padL d sz) (k + 1))) := by
            have e : redAt M (x, padL d sz) (k + 1) = redAt M (x, padL d sz) k := by
              show redStep k (M[k]?.getD none) _ = _
              rw [HMO.out]; rfl
            rw [e]; exact HR2.out
          go_wp2_with fail
          go_roundw
          case rel => exact ⟨k + 1, by omega, by go_num, HF2, HR3⟩
          case measure => simp [intOf]; omega
        | some a =>
          replace hrow : wr.cell? ⟨brs, k, none⟩ = some (.pointer (some ⟨a.1.r, 0, none⟩)) := hrow
          have hst : redAt M (x, padL d sz) (k + 1) = if (redAt M (x, padL d sz) k).1.testBit k then xorR (redAt M (x, padL d sz) k) a.2 else redAt M (x, padL d sz) k := by
            show redStep k (M[k]?.getD none) _ = _
            rw [HMO.out]; rfl
          have HST := Lib.hid hst
          clear hst
          go_wp2_with fail
          refine (vec_has HR2.out.2.1 hlt).mono ?_
          rintro e w' ⟨rfl, rfl⟩
          by_cases hbit : (redAt M (x, padL d sz) k).1.testBit k = true
          · obtain ⟨ha, _⟩ := HALL.out k a HO.out
            have HA : Hid (RowRep wr a.1 n sz a.2) := ha.frN HF2.out
            have l1 := ha.2.1.ltw
            have l2 := ha.2.2.1.lt
            have HST2 : Hid (redAt M (x, padL d sz) (k + 1) = xorR (redAt M (x, padL d sz) k) a.2) := by show _ = _; rw [HST.out, if_pos hbit]
            clear ha
            go_wp2_with fail
            refine (row_xor HR2.out HA.out (by omega) (by omega)).mono ?_
            rintro e w3 ⟨rfl, hf3, hr3⟩
            have HF3 : Hid (Fr NoF w w3) := HF2.out.trans hf3 fun i hi e => by omega
            have HR3 : Hid (RowRep w3 g n sz (redAt M (x, padL d sz) (k + 1))) := by rw [HST2.out]; exact hr3
            clear hf3 hr3
            go_wp2_with fail
            go_roundw
            case rel => exact ⟨k + 1, by omega, by go_num, HF3, HR3⟩
            case measure => simp [intOf]; omega
          · simp only [Bool.not_eq_true] at hbit
            have HR3 : Hid (RowRep wr g n sz (redAt M (x, padL d sz) (k + 1))) := by rw [HST.out, hbit]; exact HR2.out
            go_wp2_with fail
            go_roundw
            case rel => exact ⟨k + 1, by omega, by go_num, HF2, HR3⟩
            case measure => simp [intOf]; omega
      · have e : k = n := by omega
        subst e
        go_wp2_with fail
        go_ret
        have hlM : M.length = k := hok.1
        refine ⟨g, rfl, HF2.out, ?_, b1, b2, b3, b4⟩
        unfold reduce
        rw [hlM]
        exact HR2.out
end Go.Proofs.YtamdmkjejpkbiaaGreatDoor
