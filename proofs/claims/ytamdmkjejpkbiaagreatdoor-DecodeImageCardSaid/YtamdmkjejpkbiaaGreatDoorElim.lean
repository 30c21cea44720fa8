/- Rows that say something new: what the functions of package elim do to memory. -/
import Derived.Test.YtamdmkjejpkbiaaGreatDoorSpread
import Derived.Test.YtamdmkjejpkbiaaGreatDoorElimP
namespace Go.Proofs.YtamdmkjejpkbiaaGreatDoor
open Go Go.RowKit Go.Proofs

/-- A byte, bytes, as they lie. -/
def byteV (x : UInt8) : Value := .int .u8 x.toNat
def bytesV (l : List UInt8) : List Value := l.map byteV
theorem bytesV_one (l : List UInt8) : ∀ u, u ∈ bytesV l → u.oneCell' = true := by
  intro u hu
  simp only [bytesV, List.mem_map] at hu
  obtain ⟨x, _, rfl⟩ := hu
  rfl
theorem bytesV_length (l : List UInt8) : (bytesV l).length = l.length := List.length_map _
theorem bytesV_get {l : List UInt8} {i : Nat} (h : i < l.length) : (bytesV l).toArray[i]? = some (.int .u8 l[i].toNat) := by simp [bytesV, byteV, h]

/-- Where a row lies: the row, its header of bits, its words, its data. -/
structure RG where
  r : Nat
  v : Nat
  w : Nat
  d : Nat

/-- A row in memory. -/
def RowRep (w : World) (g : RG) (n sz : Nat) (y : Row) : Prop :=
  Blk w g.r #[.pointer (some ⟨g.v, 0, none⟩), .slice (some ⟨g.d, 0, none⟩) sz sz] 100 ∧ VecRep w g.v g.w n y.1 ∧ Blk w g.d (bytesV y.2).toArray 5 ∧ y.2.length = sz ∧ 1 ≤ sz ∧ sz ≤ 16
theorem RowRep.eq {w w' : World} {g : RG} {n sz : Nat} {y : Row} (h : RowRep w g n sz y) (er : w'.heap[g.r]? = w.heap[g.r]?) (ev : w'.heap[g.v]? = w.heap[g.v]?) (ew : w'.heap[g.w]? = w.heap[g.w]?) (ed : w'.heap[g.d]? = w.heap[g.d]?) : RowRep w' g n sz y :=
  ⟨h.1.eq er, h.2.1.eq ev ew, h.2.2.1.eq ed, h.2.2.2⟩
theorem RowRep.fr {w w' : World} {g : RG} {n sz : Nat} {y : Row} {F : Nat → Prop} (h : RowRep w g n sz y) (hf : Fr F w w') (hr : ¬ F g.r) (hv : ¬ F g.v) (hw : ¬ F g.w) (hd : ¬ F g.d) : RowRep w' g n sz y :=
  ⟨h.1.fr hf hr, h.2.1.fr hf hv hw, h.2.2.1.fr hf hd, h.2.2.2⟩
theorem RowRep.frN {w w' : World} {g : RG} {n sz : Nat} {y : Row} (h : RowRep w g n sz y) (hf : Fr NoF w w') : RowRep w' g n sz y := h.fr hf id id id id
theorem RowRep.kinds {w : World} {g g' : RG} {n n' sz sz' : Nat} {y y' : Row} (h : RowRep w g n sz y) (h' : RowRep w g' n' sz' y') : g.r ≠ g'.w ∧ g.r ≠ g'.d ∧ g.v ≠ g'.w ∧ g.v ≠ g'.d ∧ g.w ≠ g'.d ∧ g.d ≠ g'.w := by
  obtain ⟨_, _, a2, a3, _⟩ := h.2.1
  obtain ⟨_, _, b2, b3, _⟩ := h'.2.1
  exact ⟨h.1.ne b3 (by decide), h.1.ne h'.2.2.1 (by decide), a2.ne b3 (by decide), a2.ne h'.2.2.1 (by decide), a3.ne h'.2.2.1 (by decide), h.2.2.1.ne b3 (by decide)⟩

theorem u8_xor_byte (a b : UInt8) : bits .xor .u8 (a.toNat : Int) (b.toNat : Int) = ((a ^^^ b).toNat : Int) := by
  rw [u8_xor_nat _ _ a.toNat_lt b.toNat_lt, UInt8.toNat_xor]

/-- The first k bytes summed. -/
def xorTo (a b : List UInt8) (k : Nat) : List UInt8 := (xorL a b).take k ++ a.drop k
theorem xorTo_zero (a b : List UInt8) : xorTo a b 0 = a := by simp [xorTo]
theorem xorTo_all (a b : List UInt8) (h : a.length = b.length) (k : Nat) (hk : a.length ≤ k) : xorTo a b k = xorL a b := by
  unfold xorTo
  rw [List.take_of_length_le (by rw [xorL_length _ _ h]; exact hk), List.drop_eq_nil_of_le hk, List.append_nil]
theorem xorTo_get (a b : List UInt8) (h : a.length = b.length) (k : Nat) (hk : k < a.length) : (xorTo a b k)[k]? = some a[k] := by
  unfold xorTo
  have hl : ((xorL a b).take k).length = k := by rw [List.length_take, xorL_length _ _ h]; omega
  rw [List.getElem?_append_right (by omega), hl, Nat.sub_self, List.getElem?_drop, Nat.add_zero, List.getElem?_eq_getElem hk]
theorem xorTo_succ (a b : List UInt8) (h : a.length = b.length) (k : Nat) (hk : k < a.length) : (xorTo a b k).set k (a[k] ^^^ b[k]) = xorTo a b (k + 1) := by
  unfold xorTo
  have hl : ((xorL a b).take k).length = k := by rw [List.length_take, xorL_length _ _ h]; omega
  have hx : k < (xorL a b).length := by rw [xorL_length _ _ h]; exact hk
  rw [List.set_append_right _ _ (by omega), hl, Nat.sub_self, List.drop_eq_getElem_cons hk, List.set_cons_zero, List.take_succ_eq_append_getElem hx, List.append_assoc]
  simp [xorL]

set_option maxRecDepth 100000 in
/-- The sum of two rows goes into the first. -/
theorem row_xor {w : World} {g g' : RG} {n sz : Nat} {y y' : Row} (h : RowRep w g n sz y) (h' : RowRep w g' n sz y') (hw : g.w ≠ g'.w) (hd : g.d ≠ g'.d) :
    Calls Tryz.prog 46 #[.pointer (some ⟨g.r, 0, none⟩), .pointer (some ⟨g'.r, 0, none⟩)] w fun e w' =>
      e = .returned (.tuple #[]) ∧ Fr (fun k => k = g.w ∨ k = g.d) w w' ∧ RowRep w' g n sz (xorR y y') := by
  obtain ⟨k1, k2, k3, k4, k5, k6⟩ := h.kinds h'
  obtain ⟨l1, l2, l3, l4, l5, l6⟩ := h'.kinds h
  obtain ⟨m1, m2, m3, m4, m5, m6⟩ := h.kinds h
  have HR := Lib.hid h
  have HR' := Lib.hid h'
  have a0 : w.cell? ⟨g.r, 0, none⟩ = some (.pointer (some ⟨g.v, 0, none⟩)) := h.1.cell 0 rfl
  have a0' : w.cell? ⟨g'.r, 0, none⟩ = some (.pointer (some ⟨g'.v, 0, none⟩)) := h'.1.cell 0 rfl
  have hl := h.2.2.2.1
  have hl' := h'.2.2.2.1
  have hs1 := h.2.2.2.2.1
  have hs2 := h.2.2.2.2.2
  clear h h'
  go_enter Tryz.func46, Tryz.ntmps46
  go_wp2_with fail
  go_region_held3 (fun w' => w'.cell? ⟨g.r, 0, none⟩ = some (.pointer (some ⟨g.v, 0, none⟩)) ∧ w'.cell? ⟨g'.r, 0, none⟩ = some (.pointer (some ⟨g'.v, 0, none⟩))) (go_keep)
    (first | (go_at_call 66; refine (vec_xor (w := w.drew) (HR.out.2.1.frN (Fr.refl _ _).drew) (HR'.out.2.1.frN (Fr.refl _ _).drew) hw).mono ?_; rintro e w1 ⟨rfl, hf, hv⟩; have b0 := hf.ofDrew.cell a0 m1; have b0' := hf.ofDrew.cell a0' l1; have HF := Lib.hid hf.ofDrew; have HV := Lib.hid hv; clear hf hv))
  have c1' : w1.cell? ⟨g'.r, 1, none⟩ = some (.slice (some ⟨g'.d, 0, none⟩) sz sz) := HF.out.cell (HR'.out.1.cell 1 rfl) l1
  have HB1 : Hid (Blk w1 g.r _ _) := HR.out.1.fr HF.out m1
  have HD1 : Hid (Blk w1 g.d _ _) := HR.out.2.2.1.fr HF.out (Ne.symm m5)
  have HD1' : Hid (Blk w1 g'.d _ _) := HR'.out.2.2.1.fr HF.out l6
  have HL : Hid (y.2.length = y'.2.length) := hl.trans hl'.symm
  have HLY := Lib.hid hl
  have HLY' := Lib.hid hl'
  clear hl hl'
  go_wp2_with fail
  go_loopw [20] (fun i wr => ∃ k : Nat, k ≤ sz ∧ i = .int .i64 k ∧ Hid (Fr (· = g.d) w1 wr) ∧ Hid (Blk wr g.d (bytesV (xorTo y.2 y'.2 k)).toArray 5)) (fun i _ => sz - (intOf i).toNat)
  case atStart => exact ⟨0, Nat.zero_le _, rfl, Fr.refl _ _, by rw [xorTo_zero]; exact HD1⟩
  case round =>
    obtain ⟨k, hk, rfl, HF2, HB2⟩ := hrel
    by_cases hlt : k < sz
    · have hky : k < y.2.length := by rw [HLY.out]; exact hlt
      have hky' : k < y'.2.length := by rw [HLY'.out]; exact hlt
      have e1 : wr.cell? ⟨g'.d, k, none⟩ = some (.int .u8 y'.2[k].toNat) := HF2.out.cell (HD1'.out.cell k (bytesV_get hky')) (Ne.symm hd)
      have hxk : k < (xorTo y.2 y'.2 k).length := by
        have := xorTo_get y.2 y'.2 HL.out k hky
        rcases Nat.lt_or_ge k (xorTo y.2 y'.2 k).length with h | h
        · exact h
        · rw [List.getElem?_eq_none h] at this; simp at this
      have hxe : (xorTo y.2 y'.2 k)[k] = y.2[k] := by
        have := xorTo_get y.2 y'.2 HL.out k hky
        rw [List.getElem?_eq_getElem hxk] at this
        simpa using this
      have e2 : wr.cell? ⟨g.d, k, none⟩ = some (.int .u8 y.2[k].toNat) := HB2.out.cell k (by rw [bytesV_get hxk, hxe])
      have z2 := HB2.out.frozen k
      have e3 : wr.cell? ⟨g.r, 1, none⟩ = some (.slice (some ⟨g.d, 0, none⟩) sz sz) := HF2.out.cell (HB1.out.cell 1 rfl) m2
      clear hxk hxe
      go_wp2_with fail
      go_roundw
      case rel =>
        refine ⟨k + 1, by omega, by go_num, HF2.out.setCell (by intro _; rfl) _, ?_⟩
        have := HB2.out.setCell k (byteV (y.2[k] ^^^ y'.2[k]))
        rw [u8_xor_byte]
        have e : (bytesV (xorTo y.2 y'.2 k)).toArray.setIfInBounds k (byteV (y.2[k] ^^^ y'.2[k])) = (bytesV (xorTo y.2 y'.2 (k + 1))).toArray := by
          rw [List.setIfInBounds_toArray, ← xorTo_succ y.2 y'.2 HL.out k hky, bytesV, bytesV, List.map_set]
        rw [e] at this
        exact this
      case measure => simp [intOf]; omega
    · have e : k = sz := by omega
      subst e
      go_wp2_with fail
      go_end0
      have hx : xorTo y.2 y'.2 k = xorL y.2 y'.2 := xorTo_all _ _ HL.out _ (by rw [HLY.out]; exact Nat.le_refl _)
      have hb2 := HB2.out
      rw [hx] at hb2
      refine ⟨rfl, (HF.out.mono (fun i _ h => .inl h)).trans' (HF2.out.mono fun i _ h => .inr h), HB1.out.fr HF2.out m2, HV.out.fr HF2.out m4 m5, hb2, ?_, hs1, hs2⟩
      rw [xorR, xorL_length _ _ HL.out, HLY.out]
end Go.Proofs.YtamdmkjejpkbiaaGreatDoor
