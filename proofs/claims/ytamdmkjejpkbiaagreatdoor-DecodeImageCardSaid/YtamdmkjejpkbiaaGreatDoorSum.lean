/- The sum of pieces: what block.Sum does. -/
import Derived.Test.YtamdmkjejpkbiaaGreatDoorBlock
namespace Go.Proofs.YtamdmkjejpkbiaaGreatDoor
open Go Go.RowKit Go.Proofs

theorem SlAt.open {F : Nat → Prop} {w : World} {p : Option Addr} {n c : Nat} {xs : List Value} (h : SlAt F w (.slice p n c) xs) (hn : 0 < n) : ∃ b o, p = some ⟨b, o, none⟩ ∧ F b ∧ b < w.heap.size ∧ ∀ j (hj : j < xs.length), w.cell? ⟨b, o + j, none⟩ = some xs[j] := by
  obtain ⟨p', c', e, h0, hc⟩ := h
  injection e with e1 e2 e3
  subst e1; subst e2; subst e3
  exact hc (by intro e; subst e; simp at hn)

/-- The sum of pieces of one size. -/
def sumAll (sz : Nat) (bs : List (List UInt8)) : List UInt8 := bs.foldl xorL (zeroL sz)
theorem sumAll_succ (sz : Nat) (bs : List (List UInt8)) (k : Nat) (hk : k < bs.length) : sumAll sz (bs.take (k + 1)) = xorL (sumAll sz (bs.take k)) bs[k] := by
  unfold sumAll
  rw [List.take_succ_eq_append_getElem hk, List.foldl_append]; rfl
theorem sumAll_length (sz : Nat) (bs : List (List UInt8)) (h : ∀ b, b ∈ bs → b.length = sz) (k : Nat) (hk : k ≤ bs.length) : (sumAll sz (bs.take k)).length = sz := by
  induction k with
  | zero => simp [sumAll, zeroL]
  | succ k ih =>
    rw [sumAll_succ _ _ _ (by omega), xorL_length _ _ (by rw [ih (by omega), h _ (List.getElem_mem _)]), ih (by omega)]

set_option maxRecDepth 100000 in
/-- The sum of pieces of one size. -/
theorem sum_any {w : World} {F : Nat → Prop} {v : Value} {bs : List (List UInt8)} (hs : BsAt F w v bs) (sz : Nat) (h1 : 1 ≤ sz) (h2 : sz ≤ 16) (hbs : ∀ b, b ∈ bs → b.length = sz) (hbig : bs.length ≤ 1000) (hpos : 0 < bs.length) :
    Calls Tryz.prog 38 #[v] w fun e w' => ∃ g, e = .returned (.slice (some ⟨g, 0, none⟩) sz sz) ∧ Fr NoF w w' ∧ w.heap.size ≤ g ∧ Blk w' g (bytesV (sumAll sz bs)).toArray 5 := by
  obtain ⟨vs, hv, hvl, hvs⟩ := hs
  rw [← hvl] at hbig hpos
  obtain ⟨p, cap, rfl⟩ := hv.shape
  have hmk := make_u8 sz (by omega) (by omega)
  rw [Int.toNat_natCast] at hmk
  have HV := Lib.hid hv
  have HVS := Lib.hid hvs
  have HVL := Lib.hid hvl
  have HBS := Lib.hid hbs
  clear hv hvs hvl hbs
  go_enter Tryz.func38, Tryz.ntmps38
  go_wp2_with fail
  go_loopw [3, 10] (fun o i wr => ∃ k : Nat, k ≤ vs.length ∧ i = .int .i64 k ∧ Hid (Fr NoF w wr) ∧ ((k = 0 ∧ o = .slice none 0 0) ∨ ∃ g, 0 < k ∧ o = .slice (some ⟨g, 0, none⟩) sz sz ∧ w.heap.size ≤ g ∧ Hid (Blk wr g (bytesV (sumAll sz (bs.take k))).toArray 5))) (fun _ i _ => vs.length - (intOf i).toNat)
  case atStart => exact ⟨0, Nat.zero_le _, rfl, Fr.refl _ _, .inl ⟨rfl, rfl⟩⟩
  case round =>
    obtain ⟨k, hk, rfl, HF, HO⟩ := hrel
    by_cases hlt : k < vs.length
    · obtain ⟨bv, o, rfl, hck⟩ : ∃ g o, p = some ⟨g, o, none⟩ ∧ wr.cell? ⟨g, o + k, none⟩ = some vs[k] := by
        obtain ⟨g, o, rfl, _, _, hc⟩ := (HV.out.frN HF.out).open (by omega)
        exact ⟨g, o, rfl, hc k hlt⟩
      have hltb : k < bs.length := by rw [← HVL.out]; exact hlt
      have hu : SlAt F w vs[k] (bytesV bs[k]) := HVS.out k vs[k] bs[k] (List.getElem?_eq_getElem hlt) (List.getElem?_eq_getElem hltb)
      obtain ⟨pu, cu, eu⟩ := hu.shape
      rw [eu] at hu hck
      have hub : bs[k].length = sz := HBS.out _ (List.getElem_mem hltb)
      rw [bytesV_length, hub] at hu hck
      obtain ⟨b, hb⟩ : ∃ b, b = bs[k] := ⟨_, rfl⟩
      rw [← hb] at hu hub
      obtain ⟨gu, ou, rfl, _, hgl, hcu⟩ := hu.open (by omega)
      have hstep : sumAll sz (bs.take (k + 1)) = xorL (sumAll sz (bs.take k)) b := by rw [hb]; exact sumAll_succ _ _ _ hltb
      have hsl : (sumAll sz (bs.take k)).length = sz := sumAll_length _ _ HBS.out _ (by omega)
      have HSTEP := Lib.hid hstep
      have HSL := Lib.hid hsl
      have HCU := Lib.hid hcu
      have HUB := Lib.hid hub
      clear hb hstep hu eu hsl hcu hub
      have HXY : Hid ((sumAll sz (bs.take k)).length = b.length) := HSL.out.trans HUB.out.symm
      obtain ⟨A, hA⟩ : ∃ A, A = sumAll sz (bs.take k) := ⟨_, rfl⟩
      rw [← hA] at HSTEP HSL HXY
      rename World => wz
      rcases HO with ⟨rfl, rfl⟩ | ⟨g, hk0, rfl, hg, HB⟩
      · have hA0 : A = zeroL sz := hA
        have HB0 : Hid (Blk (wz.alloc (.cells (Array.replicate sz (.int .u8 0)) 5)) wz.heap.size (bytesV A).toArray 5) := by
          have e : (bytesV A).toArray = Array.replicate sz (.int .u8 0) := by rw [hA0]; simp [bytesV, byteV, zeroL]
          show Blk _ _ _ _
          rw [e]; exact Blk.new _ _ _
        have HF0 : Hid (Fr NoF w (wz.alloc (.cells (Array.replicate sz (.int .u8 0)) 5))) := HF.out.alloc _
        have hgs : w.heap.size ≤ wz.heap.size := HF.out.size
        rw [Nat.add_zero] at hck
        clear hA hA0
        go_wp2_with fail
        go_loopw [27] (fun i wr => ∃ j : Nat, j ≤ sz ∧ i = .int .i64 j ∧ Hid (Fr NoF w wr) ∧ Hid (Blk wr wz.heap.size (bytesV (xorTo A b j)).toArray 5)) (fun i _ => sz - (intOf i).toNat)
        case atStart => exact ⟨0, Nat.zero_le _, rfl, HF0, by rw [xorTo_zero]; exact HB0⟩
        case round =>
          obtain ⟨j, hj, rfl, HF2, HB2⟩ := hrel
          by_cases hlj : j < sz
          · have hky : j < A.length := by rw [HSL.out]; exact hlj
            have hky' : j < b.length := by rw [HUB.out]; exact hlj
            have e1 : wr.cell? ⟨gu, ou + j, none⟩ = some (.int .u8 b[j].toNat) := by
              have := HF2.out.cellN (HCU.out j (by rw [bytesV_length]; exact hky'))
              simpa [bytesV, byteV] using this
            have hxk : j < (xorTo A b j).length := by
              have := xorTo_get A b HXY.out j hky
              rcases Nat.lt_or_ge j (xorTo A b j).length with h | h
              · exact h
              · rw [List.getElem?_eq_none h] at this; simp at this
            have hxe : (xorTo A b j)[j] = A[j] := by
              have := xorTo_get A b HXY.out j hky
              rw [List.getElem?_eq_getElem hxk] at this
              simpa using this
            have e2 : wr.cell? ⟨wz.heap.size, j, none⟩ = some (.int .u8 A[j].toNat) := HB2.out.cell j (by rw [bytesV_get hxk, hxe])
            have z2 := HB2.out.frozen j
            clear hxk hxe
            go_wp2_with fail
            go_roundw
            case rel =>
              refine ⟨j + 1, by omega, by go_num, HF2.out.setCell (fun h => absurd h (Nat.not_lt.2 hgs)) _, ?_⟩
              have := HB2.out.setCell j (byteV (A[j] ^^^ b[j]))
              rw [u8_xor_byte]
              have e : (bytesV (xorTo A b j)).toArray.setIfInBounds j (byteV (A[j] ^^^ b[j])) = (bytesV (xorTo A b (j + 1))).toArray := by
                rw [List.setIfInBounds_toArray, ← xorTo_succ A b HXY.out j hky, bytesV, bytesV, List.map_set]
              rw [e] at this
              exact this
            case measure => simp [intOf]; omega
          · have e : j = sz := by omega
            subst e
            have hx : xorTo A b j = xorL A b := xorTo_all _ _ HXY.out _ (by rw [HSL.out]; exact Nat.le_refl _)
            rw [hx, ← HSTEP.out] at HB2
            go_wp2_with fail
            go_roundw
            case rel => exact ⟨_, by omega, by go_num, HF2, .inr ⟨wz.heap.size, by omega, rfl, hgs, HB2⟩⟩
            case measure => simp [intOf]; omega
      · rw [← hA] at HB
        clear hA
        go_wp2_with fail
        go_loopw [27] (fun i wr => ∃ j : Nat, j ≤ sz ∧ i = .int .i64 j ∧ Hid (Fr NoF w wr) ∧ Hid (Blk wr g (bytesV (xorTo A b j)).toArray 5)) (fun i _ => sz - (intOf i).toNat)
        case atStart => exact ⟨0, Nat.zero_le _, rfl, HF, by rw [xorTo_zero]; exact HB⟩
        case round =>
          obtain ⟨j, hj, rfl, HF2, HB2⟩ := hrel
          by_cases hlj : j < sz
          · have hky : j < A.length := by rw [HSL.out]; exact hlj
            have hky' : j < b.length := by rw [HUB.out]; exact hlj
            have e1 : wr.cell? ⟨gu, ou + j, none⟩ = some (.int .u8 b[j].toNat) := by
              have := HF2.out.cellN (HCU.out j (by rw [bytesV_length]; exact hky'))
              simpa [bytesV, byteV] using this
            have hxk : j < (xorTo A b j).length := by
              have := xorTo_get A b HXY.out j hky
              rcases Nat.lt_or_ge j (xorTo A b j).length with h | h
              · exact h
              · rw [List.getElem?_eq_none h] at this; simp at this
            have hxe : (xorTo A b j)[j] = A[j] := by
              have := xorTo_get A b HXY.out j hky
              rw [List.getElem?_eq_getElem hxk] at this
              simpa using this
            have e2 : wr.cell? ⟨g, j, none⟩ = some (.int .u8 A[j].toNat) := HB2.out.cell j (by rw [bytesV_get hxk, hxe])
            have z2 := HB2.out.frozen j
            clear hxk hxe
            go_wp2_with fail
            go_roundw
            case rel =>
              refine ⟨j + 1, by omega, by go_num, HF2.out.setCell (fun h => absurd h (Nat.not_lt.2 hg)) _, ?_⟩
              have := HB2.out.setCell j (byteV (A[j] ^^^ b[j]))
              rw [u8_xor_byte]
              have e : (bytesV (xorTo A b j)).toArray.setIfInBounds j (byteV (A[j] ^^^ b[j])) = (bytesV (xorTo A b (j + 1))).toArray := by
                rw [List.setIfInBounds_toArray, ← xorTo_succ A b HXY.out j hky, bytesV, bytesV, List.map_set]
              rw [e] at this
              exact this
            case measure => simp [intOf]; omega
          · have e : j = sz := by omega
            subst e
            have hx : xorTo A b j = xorL A b := xorTo_all _ _ HXY.out _ (by rw [HSL.out]; exact Nat.le_refl _)
            rw [hx, ← HSTEP.out] at HB2
            go_wp2_with fail
            go_roundw
            case rel => exact ⟨_, by omega, by go_num, HF2, .inr ⟨g, by omega, rfl, hg, HB2⟩⟩
            case measure => simp [intOf]; omega
    · have e : k = vs.length := by omega
      subst e
      rcases HO with ⟨h0, _⟩ | ⟨g, hk0, rfl, hg, HB⟩
      · omega
      · rw [HVL.out, List.take_length] at HB
        go_wp2_with fail
        go_ret
        exact ⟨_, rfl, HF.out, hg, HB.out⟩
end Go.Proofs.YtamdmkjejpkbiaaGreatDoor
