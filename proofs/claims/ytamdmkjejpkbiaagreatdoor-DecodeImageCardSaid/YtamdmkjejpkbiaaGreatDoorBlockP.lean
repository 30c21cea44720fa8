/- An image in pieces, in plain Lean: how many, the pieces, the image of pieces, sums. No program. -/
import Derived.Test.YtamdmkjejpkbiaaGreatDoorElimP
import Derived.Test.YtamdmkjejpkbiaaGreatDoorSpreadP
namespace Go.Proofs.YtamdmkjejpkbiaaGreatDoor

/-- How many pieces of a size hold so many bytes; 0: they do not. -/
def countN (len sz : Nat) : Nat := if 1 ≤ len ∧ len ≤ 512 ∧ 1 ≤ sz ∧ sz ≤ 16 ∧ (len + sz - 1) / sz ≤ 64 then (len + sz - 1) / sz else 0

/-- Data, filled up or cut. -/
def padL (d : List UInt8) (sz : Nat) : List UInt8 := d.take sz ++ List.replicate (sz - min d.length sz) 0
theorem padL_length (d : List UInt8) (sz : Nat) : (padL d sz).length = sz := by simp [padL]; omega
theorem padL_full {d : List UInt8} {sz : Nat} (h : d.length = sz) : padL d sz = d := by
  unfold padL
  rw [List.take_of_length_le (by omega), show sz - min d.length sz = 0 by omega]
  simp

/-- The pieces of bytes. -/
def chop (full : List UInt8) (sz n : Nat) : List (List UInt8) := (List.range n).map fun i => (full.drop (i * sz)).take sz
theorem chop_succ (full : List UInt8) (sz n : Nat) : chop full sz (n + 1) = chop full sz n ++ [(full.drop (n * sz)).take sz] := by simp [chop, List.range_succ]
theorem chop_length (full : List UInt8) (sz n : Nat) : (chop full sz n).length = n := by simp [chop]
theorem chop_flatten (full : List UInt8) (sz n : Nat) : (chop full sz n).flatten = full.take (n * sz) := by
  induction n with
  | zero => simp [chop]
  | succ n ih =>
    rw [chop_succ, List.flatten_append, ih, Nat.succ_mul, List.take_add]
    simp
/-- The pieces of an image. -/
def splitL (image : List UInt8) (sz n : Nat) : List (List UInt8) := chop (padL image (n * sz)) sz n
theorem mem_splitL {image : List UInt8} {sz n : Nat} {b : List UInt8} (h : b ∈ splitL image sz n) : b.length = sz := by
  simp only [splitL, chop, List.mem_map, List.mem_range] at h
  obtain ⟨i, hi, rfl⟩ := h
  have := padL_length image (n * sz)
  have : (i + 1) * sz ≤ n * sz := Nat.mul_le_mul_right _ hi
  rw [Nat.succ_mul] at this
  simp
  omega
theorem splitL_length (image : List UInt8) (sz n : Nat) : (splitL image sz n).length = n := chop_length _ _ _
/-- The pieces tell the image. -/
theorem split_join {image : List UInt8} {sz n : Nat} (h : image.length ≤ n * sz) : (splitL image sz n).flatten.take image.length = image := by
  unfold splitL
  rw [chop_flatten, List.take_take, Nat.min_eq_left h]
  unfold padL
  rw [List.take_of_length_le h]
  simp

/-- No bytes but zeros. -/
def zeroL (sz : Nat) : List UInt8 := List.replicate sz 0
/-- The sum of those pieces that a row has: of the first k. -/
def sumTo (sz x : Nat) (ps : List (List UInt8)) : Nat → List UInt8
  | 0 => zeroL sz
  | k + 1 => if x.testBit k then xorL (sumTo sz x ps k) (ps[k]?.getD []) else sumTo sz x ps k
/-- The sum of those pieces that a row has. -/
def sumSel (sz x : Nat) (ps : List (List UInt8)) : List UInt8 := sumTo sz x ps ps.length
theorem sumTo_length {sz x : Nat} {ps : List (List UInt8)} (h : ∀ b, b ∈ ps → b.length = sz) {k : Nat} (hk : k ≤ ps.length) : (sumTo sz x ps k).length = sz := by
  induction k with
  | zero => simp [sumTo, zeroL]
  | succ k ih =>
    have := ih (by omega)
    unfold sumTo
    split
    · rw [xorL_length, this]
      rw [this, List.getElem?_eq_getElem (by omega)]
      exact (h _ (List.getElem_mem _)).symm
    · exact this
theorem sumSel_length {sz x : Nat} {ps : List (List UInt8)} (h : ∀ b, b ∈ ps → b.length = sz) : (sumSel sz x ps).length = sz := sumTo_length h (Nat.le_refl _)

/-- All pieces of an image: its own, those of parity. -/
def piecesL (p : Par) (l : List (List UInt8)) : List (List UInt8) := l ++ (List.range p.P).map fun j => sumSel p.sz (parRow p j) l
theorem piecesL_length {p : Par} {l : List (List UInt8)} (h : l.length = p.K) : (piecesL p l).length = p.n := by simp [piecesL, h, Par.n]
theorem mem_piecesL {p : Par} {l : List (List UInt8)} (h : ∀ b, b ∈ l → b.length = p.sz) {b : List UInt8} (hb : b ∈ piecesL p l) : b.length = p.sz := by
  simp only [piecesL, List.mem_append, List.mem_map] at hb
  rcases hb with hb | ⟨j, _, rfl⟩
  · exact h b hb
  · exact sumSel_length h
/-- All pieces of an image that is coded so. -/
def allPieces (p : Par) (image : List UInt8) : List (List UInt8) := piecesL p (splitL image p.sz p.K)
/-- The data of a symbol. -/
def symbolL (p : Par) (image : List UInt8) (id : Nat) : List UInt8 := sumSel p.sz (rowN p id) (allPieces p image)
theorem allPieces_length (p : Par) (image : List UInt8) : (allPieces p image).length = p.n := piecesL_length (splitL_length _ _ _)
theorem mem_allPieces {p : Par} {image : List UInt8} {b : List UInt8} (h : b ∈ allPieces p image) : b.length = p.sz := mem_piecesL (fun _ hb => mem_splitL hb) h
theorem symbolL_length (p : Par) (image : List UInt8) (id : Nat) : (symbolL p image id).length = p.sz := sumSel_length fun _ h => mem_allPieces h

end Go.Proofs.YtamdmkjejpkbiaaGreatDoor
