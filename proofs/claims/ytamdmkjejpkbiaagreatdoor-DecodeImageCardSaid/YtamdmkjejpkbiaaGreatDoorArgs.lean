/- Arguments that were read, as lists: bytes, numbers, structs; footprint: whatever. No function of the program. -/
import Derived.Test.YtamdmkjejpkbiaaGreatDoorSep
import Derived.Deep.Slices
import Derived.Deep.Fields
import Derived.ChangeSame
import Derived.ChangeSlices
namespace Go.Proofs.YtamdmkjejpkbiaaGreatDoor
open Go Go.RowKit Go.ChangeShapes Go.WideShapes Go.Deep


section
variable {H : Type} {enc : TypeId × Value → H} {P : Program} {w : World} {base : Nat} {spare : Nat → Bool} {held : Bool}

theorem cell_spot {w : World} {a : Addr} {v : Value} (h : w.cell? a = some v) : a = ⟨a.block, a.off, none⟩ ∧ a.block < w.heap.size := by
  obtain ⟨b, o, s⟩ := a
  unfold World.cell? at h
  rcases Nat.lt_or_ge b w.heap.size with h1 | h1
  · refine ⟨?_, h1⟩
    split at h
    · split at h
      · simp at h
      · rename_i hs
        simp only [Option.isSome_iff_ne_none, ne_eq, Decidable.not_not] at hs
        subst hs
        rfl
    · simp at h
  · simp only [Array.getElem?_eq_none h1] at h
    simp at h

/-- A slice of integers that was read. -/
theorem args_ints {t e : TypeId} {k : IntKind} {fuel : Nat} {cs : List Value} {x : DataW H × List MemPlace} (ht : P.underlying t = some (.slice e)) (he : P.underlying e = some (.int k)) (hc : P.cellsOf e = 1)
    (h : DataW.trod enc P w base spare held fuel t cs = some x) : ∃ (v : Value) (zs : List Int), cs = [v] ∧ SlAt AllF w v (zs.map (Value.int k)) ∧ zs.length ≤ maxLen ∧ (∀ n ∈ zs, (Lit.int k n).wf = true) := by
  rcases open_ints ht he hc h with ⟨rfl, _⟩ | ⟨a, len, cap, zs, rfl, _, hl, hm, hz, _, hcell, hwf⟩
  · exact ⟨_, [], rfl, SlAt.nil _ _, Nat.zero_le _, fun n hn => by cases hn⟩
  · have hle : len ≤ zs.length := by rw [hz]; split <;> omega
    have hlen : (zs.take len).length = len := by rw [List.length_take]; omega
    refine ⟨_, zs.take len, rfl, ⟨some a, cap, by rw [List.length_map, hlen], ⟨fun e => by simp at e, by rw [List.length_map, hlen]; exact hl⟩, fun hne => ?_⟩, by omega, fun n hn => hwf n (List.mem_of_mem_take hn)⟩
    have h0 : 0 < len := by
      rcases Nat.eq_zero_or_pos len with e | e
      · subst e; simp at hne
      · exact e
    have hc0 := hcell 0 (by omega)
    have ea : a.add 0 = a := rfl
    rw [ea] at hc0
    obtain ⟨e1, e2⟩ := cell_spot hc0
    refine ⟨a.block, a.off, by rw [← e1], trivial, e2, fun j hj => ?_⟩
    have hj' : j < len := by rw [List.length_map, hlen] at hj; exact hj
    have := hcell j (by omega)
    rw [e1, Addr.add_zero_spot] at this
    rw [this]
    simp [List.getElem_take, List.getD, List.getElem?_eq_getElem (show j < zs.length by omega)]

/-- A slice of structs of one-cell fields that was read: each field's cell, and how it reads. -/
theorem args_structs {t e : TypeId} {fs : Array Field} {fuel : Nat} {cs : List Value} {x : DataW H × List MemPlace} (ht : P.underlying t = some (.slice e)) (he : P.underlying e = some (.struct fs)) (hone : oneCellFields P fs = true) (hC : P.cellsOf e = fs.size) (hf0 : 0 < fs.size)
    (h : DataW.trod enc P w base spare held fuel t cs = some x) : ∃ (p : Option Addr) (len cap : Nat), cs = [.slice p len cap] ∧ len ≤ maxLen ∧ (p = none → len = 0) ∧ (0 < len → ∃ b o, p = some ⟨b, o, none⟩ ∧ b < w.heap.size ∧
      ∀ i, i < len → ∃ n, ∀ (j : Nat) (f : Field), fs[j]? = some f → ∃ (v : Value) (y : DataW H × List MemPlace), w.cell? ⟨b, o + (i * fs.size + j), none⟩ = some v ∧ DataW.trod enc P w base spare held n f.type [v] = some y) := by
  rcases open_slice ht h with ⟨rfl, _⟩ | ⟨a, len, cap, m, n, D, Pl, rfl, hb, hl, hm, hmm, hx, hi⟩
  · exact ⟨none, 0, 0, rfl, Nat.zero_le _, fun _ => rfl, fun h => absurd h (Nat.lt_irrefl 0)⟩
  · refine ⟨some a, len, cap, rfl, by omega, fun e => by simp at e, fun h0 => ?_⟩
    have hlm : len ≤ m := by rw [hmm]; split <;> omega
    have each : ∀ i, i < len → ∃ n, ∀ (j : Nat) (f : Field), fs[j]? = some f → ∃ (v : Value) (y : DataW H × List MemPlace), w.cell? (a.add (i * fs.size + j)) = some v ∧ DataW.trod enc P w base spare held n f.type [v] = some y := by
      intro i him
      obtain ⟨cs', hc, ht'⟩ := hi i (by omega)
      rw [hC] at hc
      obtain ⟨ys, n', hn', hy, hlen, hyl, hf⟩ := DataW.trod_struct he ht'
      obtain ⟨_, hcl, hat⟩ := World.cells?_some hc
      refine ⟨n', fun j f hj => ?_⟩
      obtain ⟨ho, hk⟩ := hone_of hone j f hj
      have hjl : j < fs.size := (Array.getElem?_eq_some_iff.1 hj).1
      have hcell := hat j hjl
      have hv : cs'[j]? = some (cs'[j]'(by omega)) := List.getElem?_eq_getElem (by omega)
      have h1 := hf j f hj
      rw [ho, hk] at h1
      have hone' : (cs'.drop j).take 1 = [cs'[j]'(by omega)] := by
        rw [List.drop_eq_getElem_cons (by omega)]
        rfl
      rw [hone'] at h1
      have hys : ys[j]? = some (ys[j]'(by omega)) := List.getElem?_eq_getElem (by omega)
      refine ⟨_, _, ?_, h1.trans hys⟩
      rw [← Go.Deep.add_add, hcell, hv]
    obtain ⟨n0, hz⟩ := each 0 h0
    obtain ⟨v0, y0, hc0, _⟩ := hz 0 fs[0] (by simp [hf0])
    rw [Nat.zero_mul] at hc0
    obtain ⟨e1, e2⟩ := cell_spot (show w.cell? a = some v0 from hc0)
    refine ⟨a.block, a.off, by rw [← e1], e2, fun i hi => ?_⟩
    obtain ⟨n1, h1⟩ := each i hi
    refine ⟨n1, fun j f hj => ?_⟩
    obtain ⟨v, y, hv, hy⟩ := h1 j f hj
    rw [e1, Addr.add_zero_spot] at hv
    exact ⟨v, y, hv, hy⟩
end

/-- Bytes as numbers. -/
theorem bytes_of (zs : List Int) (h : ∀ n ∈ zs, (Lit.int .u8 n).wf = true) : ∃ l : List UInt8, zs.map (Value.int .u8) = l.map (fun x => Value.int .u8 x.toNat) ∧ l.length = zs.length := by
  refine ⟨zs.map fun n => UInt8.ofNat n.toNat, ?_, by simp⟩
  rw [List.map_map]
  refine List.map_congr_left fun n hn => ?_
  have := h n hn
  have hb : 0 ≤ n ∧ n < 256 := by
    simp [Lit.wf, IntKind.min, IntKind.max, IntKind.signed, IntKind.bits] at this
    omega
  simp only [Function.comp]
  congr 1
  rw [UInt8.toNat_ofNat']
  omega
theorem u32s_of (zs : List Int) (h : ∀ n ∈ zs, (Lit.int .u32 n).wf = true) : ∃ l : List Nat, zs.map (Value.int .u32) = l.map (fun x => Value.int .u32 (x : Nat)) ∧ l.length = zs.length ∧ ∀ x ∈ l, x < 4294967296 := by
  have hb : ∀ n ∈ zs, 0 ≤ n ∧ n < 4294967296 := fun n hn => by
    have := h n hn
    simp [Lit.wf, IntKind.min, IntKind.max, IntKind.signed, IntKind.bits] at this
    omega
  refine ⟨zs.map Int.toNat, ?_, by simp, fun x hx => ?_⟩
  · rw [List.map_map]
    refine List.map_congr_left fun n hn => ?_
    have := hb n hn
    simp only [Function.comp]
    congr 1
    omega
  · simp only [List.mem_map] at hx
    obtain ⟨n, hn, rfl⟩ := hx
    have := hb n hn
    omega
end Go.Proofs.YtamdmkjejpkbiaaGreatDoor
