/- Law 12: are symbols few and short? -/
import Derived.Test.YtamdmkjejpkbiaaGreatDoorCalls
namespace Go.Proofs.YtamdmkjejpkbiaaGreatDoor
open Go Go.RowKit Go.Proofs

/-- Few symbols, short ones. -/
def lightB (cs : List (Nat × List UInt8)) : Bool := decide (cs.length ≤ 100) && cs.all fun c => decide (c.2.length ≤ 40)
theorem lightB_of {cs : List (Nat × List UInt8)} (h : ∀ j (hj : j < cs.length), j < 100 ∧ cs[j].2.length ≤ 40) : lightB cs = true := by
  unfold lightB
  rw [Bool.and_eq_true, decide_eq_true_eq, List.all_eq_true]
  refine ⟨?_, fun c hc => ?_⟩
  · rcases Nat.lt_or_ge 100 cs.length with h1 | h1
    · have := (h 100 h1).1; omega
    · exact h1
  · obtain ⟨j, hj, rfl⟩ := List.mem_iff_getElem.1 hc
    simpa using (h j hj).2
theorem lightB_not {cs : List (Nat × List UInt8)} {j : Nat} (hj : j < cs.length) (h : 100 ≤ j ∨ 40 < cs[j].2.length) : lightB cs = false := by
  unfold lightB
  rw [Bool.and_eq_false_iff]
  rcases h with h | h
  · left; simp; omega
  · right
    rw [List.all_eq_false]
    exact ⟨cs[j], List.getElem_mem _, by simpa using h⟩
theorem lightB_len {cs : List (Nat × List UInt8)} (h : lightB cs = true) : cs.length ≤ 100 := by
  unfold lightB at h
  rw [Bool.and_eq_true] at h
  simpa using h.1
theorem lightB_get {cs : List (Nat × List UInt8)} (h : lightB cs = true) {j : Nat} (hj : j < cs.length) : cs[j].2.length ≤ 40 := by
  unfold lightB at h
  rw [Bool.and_eq_true, List.all_eq_true] at h
  simpa using h.2 cs[j] (List.getElem_mem _)

set_option maxRecDepth 100000 in
theorem light_any {w : World} {v : Value} {cs : List (Nat × List UInt8)} (h : CsAt w v cs) : Calls Tryz.prog 8 #[v] w fun e w' => e = .returned (.bool (lightB cs)) ∧ Fr NoF w w' := by
  obtain ⟨p, cap, rfl, hm, h⟩ := h
  unfold maxLen at hm
  have H := Lib.hid h
  clear h
  go_enter Tryz.func8, Tryz.ntmps8
  go_wp2_with fail
  go_loopw [7] (fun i wr => ∃ k : Nat, k ≤ cs.length ∧ i = .int .i64 k ∧ Hid (Fr NoF w wr) ∧ Hid (∀ j (hj : j < cs.length), j < k → j < 100 ∧ cs[j].2.length ≤ 40)) (fun i _ => cs.length - (intOf i).toNat)
  case atStart => exact ⟨0, Nat.zero_le _, rfl, Fr.refl _ _, fun j _ hj => absurd hj (Nat.not_lt_zero j)⟩
  case round =>
    obtain ⟨k, hk, rfl, HF, HL⟩ := hrel
    by_cases hlt : k < cs.length
    · obtain ⟨b, o, rfl, hc⟩ := H.out (by omega)
      obtain ⟨h1, h2, h3, pd, cd, h4, h5⟩ := hc k hlt
      have c0 := HF.out.cellN h3
      have c1 := HF.out.cellN h4
      clear hc h3 h4 h5
      by_cases h100 : k < 100
      · by_cases h40 : cs[k].2.length ≤ 40
        · have HL' : Hid (∀ j (hj : j < cs.length), j < k + 1 → j < 100 ∧ cs[j].2.length ≤ 40) := fun j hj hk => by
            by_cases e : j = k
            · subst e; exact ⟨h100, h40⟩
            · exact HL.out j hj (by omega)
          have HF' := Lib.hid (HF.out.alloc (.cells #[.int .u32 cs[k].1, .slice pd cs[k].2.length cd] 36))
          go_wp2_with fail
          go_roundw
          case rel => exact ⟨k + 1, by omega, by go_num, HF', HL'⟩
          case measure => simp [intOf]; omega
        · have HN := Lib.hid (lightB_not hlt (.inr (by omega)))
          go_wp2_with fail
          go_ret
          exact ⟨by rw [HN.out]; rfl, HF.out.alloc _⟩
      · have HN := Lib.hid (lightB_not hlt (.inl (by omega)))
        go_wp2_with fail
        go_ret
        exact ⟨by rw [HN.out]; rfl, HF.out.alloc _⟩
    · go_wp2_with fail
      go_ret
      exact ⟨by rw [lightB_of fun j hj => HL.out j hj (by omega)]; rfl, HF.out⟩
end Go.Proofs.YtamdmkjejpkbiaaGreatDoor
