/- Law 12: an image that every program must know to work out; a decoder that there isn't. -/
import Derived.Test.YtamdmkjejpkbiaaGreatDoorDec4
import Derived.Laws.BytesArg
import Derived.Laws.IdiomStrings
namespace Go.Proofs.YtamdmkjejpkbiaaGreatDoor
open Go Go.RowKit Go.Proofs

/-- 'string(b)'. -/
theorem conv_sl {F : Nat → Prop} {w : World} {v : Value} {l : List UInt8} (h : SlAt F w v (bytesV l)) : (convert 28 9 v).run Tryz.prog w = .ok (.string ⟨l.toArray⟩) w := by
  obtain ⟨p, c, e, h0, hc⟩ := h
  rw [bytesV_length] at e
  subst e
  by_cases hl : l = []
  · subst hl
    cases p with
    | none => exact run_convert_bytes_nil w _ _ Tryz.underlying28 Tryz.underlying5 _ _ _ Tryz.underlying9
    | some a => exact run_convert_bytes_back w _ _ _ a c [] Tryz.underlying28 Tryz.underlying5 Tryz.underlying9 (by simp)
  · obtain ⟨b, o, rfl, _, _, hcc⟩ := hc (by simpa [bytesV] using hl)
    refine run_convert_bytes_back w _ _ _ ⟨b, o, none⟩ c l Tryz.underlying28 Tryz.underlying5 Tryz.underlying9 fun j hj => ?_
    rw [Addr.add_zero_spot, hcc j (by rw [bytesV_length]; exact hj)]
    simp [bytesV, byteV]

/-- A matrix that was offered the rows of parity and those of some symbols. -/
def DecSt (p : Par) (M : Mat) (ids : Nat → Prop) : Prop := Spans p.n M (decX p ids)
theorem DecSt.start (p : Par) : DecSt p (parMat p p.P) fun _ => False :=
  (parMat_spans p (Nat.le_refl _)).congr fun x => ⟨.inl, fun h => h.elim (fun h => h) fun ⟨_, h, _⟩ => h.elim⟩
theorem DecSt.step {p : Par} {M : Mat} {ids : Nat → Prop} (h : DecSt p M ids) (id : Nat) (d : List UInt8) : DecSt p (add M (rowN p id) d) (fun i => ids i ∨ i = id) :=
  (Spans.add h d (rowN_lt id)).congr fun x => by
    constructor
    · rintro ((h | ⟨i, h1, h2⟩) | rfl)
      · exact .inl h
      · exact .inr ⟨i, .inl h1, h2⟩
      · exact .inr ⟨id, .inr rfl, rfl⟩
    · rintro (h | ⟨i, h1 | rfl, h2⟩)
      · exact .inl (.inl h)
      · exact .inl (.inr ⟨i, h1, h2⟩)
      · exact .inr h2
theorem DecSt.new {p : Par} {M : Mat} {ids : Nat → Prop} (h : DecSt p M ids) {i : Nat} (hi : i < p.K) (hids : ∀ j, ids j → j < p.K ∧ j ≠ i) (d : List UInt8) : says M (rowN p i) d = true := by
  rw [Spans.says h]
  intro hs
  have e : rowN p i = 2 ^ i := by unfold rowN; rw [if_pos hi]
  rw [e] at hs
  refine unit_new p hi (hs.mono fun x hx => .one ?_)
  rcases hx with h | ⟨j, h1, h2⟩
  · exact .inl h
  · exact .inr ⟨j, hids j h1, h2⟩
theorem DecSt.full {p : Par} {M : Mat} {ids : Nat → Prop} (h : DecSt p M ids) (hids : ∀ i, i < p.K → ids i) : rank M = p.n :=
  Spans.full h fun _ hi => decX_full p hids hi

/-- A decoder all of whose blocks are new since w. -/
theorem DecRep.renew {w w1 w2 : World} {F : Nat → Prop} {b t : Nat} {p : Par} {M : Mat} (h : DecRep w2 (upF F w1 w2) b p M t) (hF : ∀ k, F k → w.heap.size ≤ k ∧ k < w1.heap.size) (h1 : w.heap.size ≤ w1.heap.size) (h2 : w1.heap.size ≤ w2.heap.size) (hg : gl ≤ w.heap.size) : DecRep w2 (upF NoF w w2) b p M t :=
  h.mono (fun k hk => by
    rcases hk with hk | hk
    · exact .inr ⟨(hF k hk).1, Nat.lt_of_lt_of_le (hF k hk).2 h2⟩
    · exact .inr ⟨Nat.le_trans h1 hk.1, hk.2⟩) ((InF.no w).up hg (Nat.le_trans h1 h2))
theorem upNo {w w1 : World} {k : Nat} (h : upF NoF w w1 k) : w.heap.size ≤ k ∧ k < w1.heap.size := h.elim (fun f => f.elim) id

/-- A symbol in a fresh row of bytes is taken by a decoder that is all new. -/
theorem take_new {w w1 : World} {b t : Nat} {p : Par} {M : Mat} (h : DecRep w1 (upF NoF w w1) b p M t) (hf : Fr NoF w w1) (hg : gl ≤ w.heap.size) (he : Env w) (id : Nat) (hid : id < 4294967296) {d : List UInt8} (hl : d.length = p.sz) :
    Calls Tryz.prog 13 #[.pointer (some ⟨b, 0, none⟩), .int .u32 id, .slice (some ⟨w1.heap.size, 0, none⟩) d.length d.length] (w1.alloc (.cells (bytesV d).toArray 5)) fun e w' =>
      e = .returned (.bool (says M (rowN p id) d)) ∧ Fr NoF w w' ∧ DecRep w' (upF NoF w w') b p (add M (rowN p id) d) (t + if says M (rowN p id) d then 1 else 0) := by
  have ha := (Fr.refl NoF w1).alloc (.cells (bytesV d).toArray 5)
  have z2 := h.ok.z2
  refine (dec_take (h.frN ha) ((he.frN hf).frN ha) id hid (SlAt.owned ((Blk.new w1 (bytesV d).toArray 5).owned (Nat.le_refl _) (by omega))) hl).mono ?_
  rintro e w' ⟨rfl, hf', hd'⟩
  have hs := hf.size
  have hs' := hf'.size
  have hsa := World.size_alloc w1 (.cells (bytesV d).toArray 5)
  exact ⟨rfl, (hf.transN ha).trans hf' fun i hi hk => by have := (upNo hk).1; omega, hd'.renew (fun k hk => ⟨(upNo hk).1, by have := (upNo hk).2; omega⟩) (by omega) hs' hg⟩

theorem DecRep.old {w w1 : World} {b t : Nat} {p : Par} {M : Mat} (h : DecRep w1 (upF NoF w w1) b p M t) : w.heap.size ≤ b := by
  obtain ⟨_, _, _, _, h, _⟩ := h
  exact (upNo h).1

/-- The parameters of awake's image. -/
def par1 : Par := ⟨1, 2, 1, 2⟩
theorem par1_ok : par1.Ok := ⟨by decide, by decide, by decide, by decide, by decide, by decide⟩
def img1 : List UInt8 := [1, 2, 3]
theorem count1 : countN img1.length par1.sz = par1.K := by decide
theorem sym1 : symbolL par1 img1 1 = [3, 0] := by
  have h := sumSel_unit (sz := 2) (ps := allPieces par1 img1) (fun b hb => mem_allPieces hb) (i := 1) (by rw [allPieces_length]; decide)
  show sumSel 2 (rowN par1 1) _ = _
  rw [show rowN par1 1 = 2 ^ 1 from rfl, h]
  rfl
theorem sym0 : symbolL par1 img1 0 = [1, 2] := by
  have h := sumSel_unit (sz := 2) (ps := allPieces par1 img1) (fun b hb => mem_allPieces hb) (i := 0) (by rw [allPieces_length]; decide)
  show sumSel 2 (rowN par1 0) _ = _
  rw [show rowN par1 0 = 2 ^ 0 from rfl, h]
  rfl

/-- The right data, a symbol after another one. -/
theorem DataOk.start {p : Par} (image : List UInt8) : DataOk p.sz (allPieces p image) (parMat p p.P) := parMat_data (splitL_length _ _ _) (fun _ hb => mem_splitL hb) (Nat.le_refl _)
theorem DataOk.sym {p : Par} {image : List UInt8} {M : Mat} (h : DataOk p.sz (allPieces p image) M) (hI : Inv p.n M) (id : Nat) : DataOk p.sz (allPieces p image) (Go.Proofs.YtamdmkjejpkbiaaGreatDoor.add M (rowN p id) (symbolL p image id)) :=
  DataOk.add (fun _ hb => mem_allPieces hb) h hI (rowN_lt id)

set_option maxRecDepth 100000 in
theorem awake_any {w : World} (he : Env w) : Calls Tryz.prog 9 #[] w fun e w' => e = .returned (.bool true) ∧ Fr NoF w w' := by
  have hn := dec_new par1_ok he
  have h0 := DecSt.start par1
  have hs1 := h0.new (i := 1) (by decide) (fun _ h => h.elim) (symbolL par1 img1 1)
  have h1 := h0.step 1 (symbolL par1 img1 1)
  have hs0 := h1.new (i := 0) (by decide) (fun j h => by rcases h with h | rfl; exact h.elim; decide) (symbolL par1 img1 0)
  have h2 := h1.step 0 (symbolL par1 img1 0)
  have hr : rank (add (add (parMat par1 par1.P) (rowN par1 1) (symbolL par1 img1 1)) (rowN par1 0) (symbolL par1 img1 0)) = par1.n := h2.full fun i hi => by
    have : i < 2 := hi
    rcases Nat.lt_or_ge i 1 with h | h
    · exact .inr (by omega)
    · exact .inl (.inr (by omega))
  have hd := ((DataOk.start img1 (p := par1)).sym h0.inv 1).sym h1.inv 0
  rw [sym1] at hs1 hr hd hs0
  rw [sym0] at hs0 hr hd
  have HN := Lib.hid hn
  have HS1 := Lib.hid hs1
  have HS0 := Lib.hid hs0
  have HR := Lib.hid hr
  have HD := Lib.hid hd
  have HE := Lib.hid he
  clear hn h0 h1 h2 hs1 hs0 hr hd he
  go_enter Tryz.func9, Tryz.ntmps9
  go_wp2_with fail
  refine HN.out.mono ?_
  rintro e w1 ⟨b, rfl, hf1, hd1⟩
  have HF1 := Lib.hid hf1
  have HD1 := Lib.hid hd1
  have hg := HE.out.1
  clear hf1 hd1
  go_wp2_with fail
  have ht1 := take_new HD1.out HF1.out hg HE.out 1 (by decide) (d := [3, 0]) rfl
  rw [HS1.out] at ht1
  refine ht1.mono ?_
  clear ht1
  rintro e w2 ⟨rfl, hf2, hd2⟩
  have HF2 := Lib.hid hf2
  have HD2 := Lib.hid hd2
  clear hf2 hd2 HD1 HF1 HS1
  go_wp2_with fail
  have ht0 := take_new HD2.out HF2.out hg HE.out 0 (by decide) (d := [1, 2]) rfl
  rw [HS0.out] at ht0
  refine ht0.mono ?_
  clear ht0
  rintro e w3 ⟨rfl, hf3, hd3⟩
  have HF3 := Lib.hid hf3
  have HD3 := Lib.hid hd3
  clear hf3 hd3 HD2 HF2 HS0
  go_wp2_with fail
  have him := dec_image HD3.out (Nat.le_trans hg HF3.out.size) HR.out (image := img1) HD.out (by decide) (by decide) count1
  refine Calls.mono him ?_
  clear him
  rintro e w4 ⟨v4, rfl, hf4, hd4, ho4⟩
  have hb3 := HD3.out.old
  have HF4 : Hid (Fr NoF w w4) := HF3.out.trans hf4 fun i hi e => by have e : i = b := e; omega
  have HD4 : Hid (DecRep w4 (upF NoF w w4) b par1 _ 2) := hd4.renew (fun k hk => upNo hk) HF3.out.size hf4.size hg
  obtain ⟨p4, c4, rfl⟩ := ownsRow_slice ho4
  have hcv : (convert 28 9 (.slice p4 img1.length c4)).run Tryz.prog w4 = .ok (.string ⟨#[1, 2, 3]⟩) w4 := conv_sl (SlAt.owned ho4)
  clear hf4 hd4 ho4 HD3 HF3
  go_wp2_with fail
  refine (dec_taken HD4.out).mono ?_
  rintro e w5 ⟨rfl, rfl⟩
  have hnd := dec_needs HD4.out
  rw [HR.out, Nat.sub_self] at hnd
  go_wp2_with fail
  refine hnd.mono ?_
  clear hnd
  rintro e w6 ⟨rfl, hf6⟩
  have HF6 : Hid (Fr NoF w w6) := HF4.out.transN hf6
  clear hf6
  go_wp2_with fail
  go_ret
  exact ⟨rfl, HF6.out⟩
end Go.Proofs.YtamdmkjejpkbiaaGreatDoor
