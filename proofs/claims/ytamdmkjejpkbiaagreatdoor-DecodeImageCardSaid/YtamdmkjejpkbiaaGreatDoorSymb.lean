/- A symbol of a head's. -/
import Derived.Test.YtamdmkjejpkbiaaGreatDoorHead
namespace Go.Proofs.YtamdmkjejpkbiaaGreatDoor
open Go Go.RowKit Go.Proofs

theorem ofBits_ne {l : List Nat} (h : 0 < l.length) : ofBits l ≠ 0 := by
  intro e
  have := ofBits_bit l l[0]
  rw [e] at this
  simp at this
/-- A row is never empty. -/
theorem rowN_ne {p : Par} (h : p.Ok) {id : Nat} (hid : id < 4294967296) : rowN p id ≠ 0 := by
  unfold rowN
  split
  · exact Nat.ne_of_gt (Nat.two_pow_pos _)
  · unfold rowFar
    apply ofBits_ne
    rw [someL_length]
    have := h.n1
    have := (degN_bound (x := mix (nextS (seed p.ses id))) h.n1 h.n2 (mix_lt _)).1
    omega

/-- The sum of the pieces that a row has, one after another. -/
theorem sumTo_bits (sz x : Nat) (ps : List (List UInt8)) (k : Nat) : sumTo sz x ps k = sumAll sz ((bitsOf k x).map fun i => ps[i]?.getD []) := by
  induction k with
  | zero => rfl
  | succ k ih =>
    rw [bitsOf_succ, sumTo, ih]
    split
    · simp [sumAll]
    · simp
theorem bitsOf_pos {n x : Nat} (h : x ≠ 0) (hx : x < 2 ^ n) : 0 < (bitsOf n x).length :=
  List.length_pos_of_mem (mem_bitsOf.2 ⟨low_lt h hx, (low_spec x h).1⟩)

theorem HeadRep.mono {w : World} {F G : Nat → Prop} {b : Nat} {p : Par} {image : List UInt8} (h : HeadRep w F b p image) (hF : ∀ k, F k → G k) (hG : InF G w) : HeadRep w G b p image := by
  obtain ⟨vi, vl, dn, h1, h2, h3, h4, h5, h6⟩ := h
  exact ⟨vi, vl, dn, h1, hF _ h2, hG, h4.mono fun k hk => ⟨hF _ hk.1, hk.2⟩, fun e => (h5 e).mono fun k hk => ⟨hF _ hk.1, hk.2⟩, h6⟩
theorem HeadRep.frN {w w' : World} {F : Nat → Prop} {b : Nat} {p : Par} {image : List UInt8} (h : HeadRep w F b p image) (hf : Fr NoF w w') : HeadRep w' F b p image := h.fr hf fun _ _ g => g
theorem HeadRep.cells {w : World} {F : Nat → Prop} {b : Nat} {p : Par} {image : List UInt8} (h : HeadRep w F b p image) : w.cell? ⟨b, 0, none⟩ = some (.int .u32 p.ses) ∧ w.cell? ⟨b, 1, none⟩ = some (.int .i64 p.K) ∧ w.cell? ⟨b, 2, none⟩ = some (.int .i64 p.P) ∧ w.cell? ⟨b, 3, none⟩ = some (.int .i64 p.sz) := by
  obtain ⟨vi, vl, dn, h1, _⟩ := h
  exact ⟨h1.cell 0 rfl, h1.cell 1 rfl, h1.cell 2 rfl, h1.cell 3 rfl⟩

theorem BsAt.len {F : Nat → Prop} {w : World} {v : Value} {bs : List (List UInt8)} (h : BsAt F w v bs) : ∃ p c, v = .slice p bs.length c := by
  obtain ⟨vs, h1, h2, _⟩ := h
  obtain ⟨p, c, e⟩ := h1.shape
  exact ⟨p, c, by rw [e, h2]⟩

set_option maxRecDepth 100000 in
/-- A symbol. -/
theorem head_symbol {w : World} {F : Nat → Prop} {b : Nat} {p : Par} {image : List UInt8} (h : HeadRep w F b p image) (hg : gl ≤ w.heap.size) (id : Nat) (hid : id < 4294967296) :
    Calls Tryz.prog 18 #[.pointer (some ⟨b, 0, none⟩), .int .u32 id] w fun e w' => ∃ g, e = .returned (.slice (some ⟨g, 0, none⟩) p.sz p.sz) ∧ Fr (fun k => k = b) w w' ∧ HeadRep w' (upF F w w') b p image ∧ w.heap.size ≤ g ∧ Blk w' g (bytesV (symbolL p image id)).toArray 5 := by
  have hr := fun w => row_any (w := w) h.ok id hid
  have hlen := allPieces_length p image
  have hmem := fun b => mem_allPieces (p := p) (image := image) (b := b)
  have n2 := h.ok.n2
  have z1 := h.ok.z1
  have z2 := h.ok.z2
  have hpos := bitsOf_pos (rowN_ne h.ok hid) (rowN_lt (p := p) id)
  have hle := bitsOf_le p.n (rowN p id)
  have hin := h.inF
  have hps := head_pieces h hg
  have HMEM := Lib.hid hmem
  have HLEN := Lib.hid hlen
  have HIN := Lib.hid hin
  clear h hmem hlen hin
  go_enter Tryz.func18, Tryz.ntmps18
  go_wp2_with fail
  refine hps.mono ?_
  clear hps
  rintro e w1 ⟨vl, rfl, hf1, hr1, hb1⟩
  obtain ⟨pl, cl, rfl⟩ := hb1.len
  rw [HLEN.out] at hb1 ⊢
  obtain ⟨c0, c1, c2, c3⟩ := hr1.cells
  have HR1 := Lib.hid hr1
  have HB1 := Lib.hid hb1
  have HF1 := Lib.hid hf1
  clear hr1 hb1 hf1
  go_wp2_with fail
  refine (hr _).mono ?_
  clear c0 c1 c2 c3
  rintro e w2 ⟨bv, bw, rfl, hf2, hv2, _, _⟩
  have HF2 := Lib.hid hf2
  have HV2 := Lib.hid hv2
  clear hf2 hv2
  go_wp2_with fail
  refine (vec_list HV2.out).mono ?_
  rintro e w3 ⟨v3, rfl, hf3, ho3⟩
  obtain ⟨p3, cp3, rfl⟩ := ownsRow_slice ho3
  have HF3 : Hid (Fr NoF w1 w3) := HF2.out.transN hf3
  have HO3 := Lib.hid (SlAt.owned ho3)
  clear hf3 ho3 HF2 HV2
  obtain ⟨vs, hv, hvl, hvs⟩ := HB1.out
  rw [HLEN.out] at hvl
  have HV := Lib.hid hv
  have HVL := Lib.hid hvl
  have HVS := Lib.hid hvs
  clear hv hvl hvs
  obtain ⟨L, hL⟩ : ∃ L, L = bitsOf p.n (rowN p id) := ⟨_, rfl⟩
  have hmemL : ∀ i, i ∈ L → i < p.n := fun i hi => by rw [hL] at hi; exact (mem_bitsOf.1 hi).1
  rw [← hL] at hpos hle HO3 ⊢
  have HL := Lib.hid hL
  have HML := Lib.hid hmemL
  clear hL hmemL
  go_wp2_with fail
  go_loopw [6, 21] (fun o i wr => ∃ k : Nat, k ≤ L.length ∧ i = .int .i64 k ∧ Hid (Fr NoF w3 wr) ∧ Hid (wr.ownsRow w3.heap.size 28 1 o k ((L.take k).map fun i => vs[i]?.getD (.slice none 0 0)))) (fun _ i _ => L.length - (intOf i).toNat)
  case atStart => exact ⟨0, Nat.zero_le _, rfl, Fr.refl _ _, by simp [World.ownsRow, Hid]⟩
  case round =>
    obtain ⟨k, hk, rfl, HF4, HO⟩ := hrel
    by_cases hlt : k < L.length
    · obtain ⟨g3, o3, rfl, hck⟩ : ∃ g o, p3 = some ⟨g, o, none⟩ ∧ wr.cell? ⟨g, o + k, none⟩ = some (.int .i64 (L[k] : Nat)) := by
        obtain ⟨g, o, rfl, _, _, hc⟩ := (HO3.out.frN HF4.out).open (by omega)
        have := hc k (by simpa using hlt)
        exact ⟨g, o, rfl, by simpa using this⟩
      obtain ⟨i, hi⟩ : ∃ i, i = L[k] := ⟨_, rfl⟩
      rw [← hi] at hck
      have hin : i < p.n := by rw [hi]; exact HML.out _ (List.getElem_mem hlt)
      have hiv : i < vs.length := by rw [HVL.out]; exact hin
      obtain ⟨gl', ol, rfl, hcl⟩ : ∃ g o, pl = some ⟨g, o, none⟩ ∧ wr.cell? ⟨g, o + i, none⟩ = some vs[i] := by
        obtain ⟨g, o, rfl, _, _, hc⟩ := (HV.out.frN (HF3.out.transN HF4.out)).open (by omega)
        exact ⟨g, o, rfl, hc i hiv⟩
      have hib : i < (allPieces p image).length := by rw [HLEN.out]; exact hin
      obtain ⟨pu, cu, hu⟩ := (HVS.out i vs[i] (allPieces p image)[i] (List.getElem?_eq_getElem hiv) (List.getElem?_eq_getElem hib)).shape
      rw [bytesV_length] at hu
      have hnext : ((L.take (k + 1)).map fun i => vs[i]?.getD (.slice none 0 0)) = ((L.take k).map fun i => vs[i]?.getD (.slice none 0 0)) ++ [.slice pu (allPieces p image)[i].length cu] := by
        rw [List.take_succ_eq_append_getElem hlt, List.map_append, ← hi, List.map_singleton, List.getElem?_eq_getElem hiv, Option.getD_some, hu]
      rw [hu] at hcl
      have HNX := Lib.hid hnext
      have hs4 := HF4.out.size
      obtain ⟨po, co, rfl⟩ := ownsRow_slice HO.out
      clear hnext hu hi
      go_wp2_with (at_builtin; refine wpList_append_one' _ rfl _ _ 73 rfl w3.heap.size 28 _ 24 Tryz.underlying73 info_bs rfl _ _ _ rfl HO.out (.slice pu (allPieces p image)[i].length cu) rfl rfl (by omega) (by decide) hs4 ?_)
      intro v' w' ho hf
      have HF5 : Hid (Fr NoF w3 w') := HF4.out.transB (hf.own HO.out)
      rw [← List.map_take, ← HNX.out] at ho
      have HO5 := Lib.hid ho
      clear ho hf
      go_wp2_with fail
      go_roundw
      case rel => exact ⟨k + 1, by omega, by go_num, HF5, HO5⟩
      case measure => simp [intOf]; omega
    · have e : k = L.length := by omega
      subst e
      have hbs : BsAt (fun _ => True) wr (.slice none 0 0) [] := ⟨[], SlAt.nil _ _, rfl, fun j u b hu => by simp at hu⟩
      clear hbs
      obtain ⟨po, co, rfl⟩ := ownsRow_slice HO.out
      have HBS : Hid (BsAt (fun _ => True) wr (.slice po L.length co) (L.map fun i => (allPieces p image)[i]?.getD [])) := by
        refine ⟨L.map fun i => vs[i]?.getD (.slice none 0 0), ?_, by simp, ?_⟩
        · have := SlAt.owned HO.out
          rw [List.take_length] at this
          exact this.mono fun _ _ => trivial
        · intro j u b' hu hb'
          rcases Nat.lt_or_ge j L.length with hj | hj
          · have hin : L[j] < p.n := HML.out _ (List.getElem_mem hj)
            have hiv : L[j] < vs.length := by rw [HVL.out]; exact hin
            have hib : L[j] < (allPieces p image).length := by rw [HLEN.out]; exact hin
            simp [hj, hiv] at hu
            simp [hj, hib] at hb'
            subst hu hb'
            exact ((HVS.out _ _ _ (List.getElem?_eq_getElem hiv) (List.getElem?_eq_getElem hib)).frN (HF3.out.transN HF4.out)).mono fun _ _ => trivial
          · rw [List.getElem?_eq_none (by simpa using hj)] at hu; simp at hu
      have hall : ∀ b', b' ∈ (L.map fun i => (allPieces p image)[i]?.getD []) → b'.length = p.sz := by
        intro b' hb'
        simp only [List.mem_map] at hb'
        obtain ⟨i, hi, rfl⟩ := hb'
        have hib : i < (allPieces p image).length := by rw [HLEN.out]; exact HML.out _ hi
        rw [List.getElem?_eq_getElem hib]
        exact HMEM.out _ (List.getElem_mem hib)
      have hsum : sumAll p.sz (L.map fun i => (allPieces p image)[i]?.getD []) = symbolL p image id := by
        rw [HL.out, ← sumTo_bits]
        show _ = sumTo p.sz (rowN p id) (allPieces p image) (allPieces p image).length
        rw [HLEN.out]
      have HALL := Lib.hid hall
      have HSUM := Lib.hid hsum
      clear hall hsum
      go_wp2_with fail
      refine (sum_any HBS.out p.sz z1 z2 HALL.out (by simp; omega) (by simp; omega)).mono ?_
      rintro e w5 ⟨g, rfl, hf5, hg5, hb5⟩
      rw [HSUM.out] at hb5
      have HF5 := Lib.hid hf5
      have HB5 := Lib.hid hb5
      clear hf5 hb5
      go_wp2_with fail
      go_ret
      have hf : Fr NoF w1 w5 := (HF3.out.transN HF4.out).transN HF5.out
      have hs1 := HF1.out.size
      have hs2 := hf.size
      have hs3 := HF3.out.size
      have hs4 := HF4.out.size
      refine ⟨g, rfl, HF1.out.transN hf, (HR1.out.frN hf).mono ?_ (HIN.out.up hg (by omega)), by omega, HB5.out⟩
      rintro k (hk | hk)
      · exact .inl hk
      · exact .inr ⟨hk.1, by omega⟩
end Go.Proofs.YtamdmkjejpkbiaaGreatDoor
