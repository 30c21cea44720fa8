/- Rows that say something new, in plain Lean: a row is a number (its bits) and its data; a matrix is a row or none for each place. No program. -/
import Derived.Test.YtamdmkjejpkbiaaGreatDoorRandP
namespace Go.Proofs.YtamdmkjejpkbiaaGreatDoor

/-- A row: its bits, its data. -/
abbrev Row := Nat × List UInt8
/-- The sum of two lists of bytes, byte by byte. -/
def xorL (a b : List UInt8) : List UInt8 := List.zipWith (· ^^^ ·) a b
theorem xorL_length (a b : List UInt8) (h : a.length = b.length) : (xorL a b).length = a.length := by simp [xorL, h]
def xorR (a b : Row) : Row := (a.1 ^^^ b.1, xorL a.2 b.2)

/-- A matrix: a row or none for each place. -/
abbrev Mat := List (Option Row)
/-- One row's part in the reducing of another one. -/
def redStep (i : Nat) (x : Option Row) (y : Row) : Row :=
  match x with
  | some r => if y.1.testBit i then xorR y r else y
  | none => y
/-- A row less what the first k rows say of it. -/
def redAt (M : Mat) (y : Row) : Nat → Row
  | 0 => y
  | k + 1 => redStep k (M[k]?.getD none) (redAt M y k)
/-- A row less what the rows say of it. -/
def reduce (M : Mat) (y : Row) : Row := redAt M y M.length

/-- A row when another one, with a first bit, is added. -/
def upd (r : Row) (y : Row) : Row := if y.1.testBit (low r.1) then xorR y r else y
/-- The matrix when a reduced row is added. -/
def addR (M : Mat) (r : Row) : Mat := (M.map (Option.map (upd r))).set (low r.1) (some r)
/-- Does a row say something new? -/
def says (M : Mat) (x : Nat) (d : List UInt8) : Bool := (reduce M (x, d)).1 != 0
/-- The matrix when a row has been offered. -/
def add (M : Mat) (x : Nat) (d : List UInt8) : Mat := if says M x d then addR M (reduce M (x, d)) else M
/-- How many rows there are. -/
def rank (M : Mat) : Nat := (M.filter Option.isSome).length
/-- The matrix without rows. -/
def mat0 (n : Nat) : Mat := List.replicate n none
theorem rank_mat0 (n : Nat) : rank (mat0 n) = 0 := by simp [rank, mat0]
theorem rank_le (M : Mat) : rank M ≤ M.length := List.length_filter_le _ _
theorem addR_length (M : Mat) (r : Row) : (addR M r).length = M.length := by simp [addR]
theorem add_length (M : Mat) (x : Nat) (d : List UInt8) : (add M x d).length = M.length := by unfold add; split <;> simp [addR_length]

/-- The bits of a reduced row do not hang on data. -/
theorem redAt_bits (M : Mat) (x : Nat) (d d' : List UInt8) (k : Nat) : (redAt M (x, d) k).1 = (redAt M (x, d') k).1 := by
  induction k with
  | zero => rfl
  | succ k ih =>
    unfold redAt
    generalize M[k]?.getD none = o
    cases o with
    | none => exact ih
    | some r =>
      simp only [redStep, ih]
      split <;> simp [xorR, ih]
theorem says_data (M : Mat) (x : Nat) (d d' : List UInt8) : says M x d = says M x d' := by unfold says reduce; rw [redAt_bits M x d d']

/-- Matrices all of whose rows fit. -/
def MatOk (n sz : Nat) (M : Mat) : Prop := M.length = n ∧ ∀ (i : Nat) (r : Row), M[i]? = some (some r) → r.1 < 2 ^ n ∧ r.2.length = sz
theorem MatOk.mat0 (n sz : Nat) : MatOk n sz (mat0 n) := ⟨by simp [Go.Proofs.YtamdmkjejpkbiaaGreatDoor.mat0], fun i r h => by
  simp only [Go.Proofs.YtamdmkjejpkbiaaGreatDoor.mat0, List.getElem?_replicate] at h
  split at h <;> simp at h⟩
theorem redStep_ok {n sz : Nat} {M : Mat} (h : MatOk n sz M) (i : Nat) {y : Row} (hy : y.1 < 2 ^ n ∧ y.2.length = sz) : (redStep i (M[i]?.getD none) y).1 < 2 ^ n ∧ (redStep i (M[i]?.getD none) y).2.length = sz := by
  cases hm : M[i]?.getD none with
  | none => exact hy
  | some r =>
    have hr : M[i]? = some (some r) := by
      cases hx : M[i]? with
      | none => rw [hx] at hm; simp at hm
      | some o => rw [hx] at hm; simp at hm; rw [hm]
    obtain ⟨a, b⟩ := h.2 i r hr
    simp only [redStep]
    split
    · exact ⟨Nat.xor_lt_two_pow hy.1 a, by simp only [xorR]; rw [xorL_length _ _ (by omega)]; exact hy.2⟩
    · exact hy
theorem redAt_ok {n sz : Nat} {M : Mat} (h : MatOk n sz M) {y : Row} (hy : y.1 < 2 ^ n ∧ y.2.length = sz) (k : Nat) : (redAt M y k).1 < 2 ^ n ∧ (redAt M y k).2.length = sz := by
  induction k with
  | zero => exact hy
  | succ k ih => exact redStep_ok h k ih

theorem rank_set (M : Mat) (i : Nat) (r : Row) (h : M[i]? = some none) : rank (M.set i (some r)) = rank M + 1 := by
  induction M generalizing i with
  | nil => simp at h
  | cons a M ih =>
    cases i with
    | zero =>
      simp at h
      subst h
      simp [rank]
    | succ i =>
      simp at h
      have := ih i h
      unfold rank at this ⊢
      rw [List.set_cons_succ]
      cases a <;> simp [this]
theorem rank_map (M : Mat) (f : Row → Row) : rank (M.map (Option.map f)) = rank M := by
  induction M with
  | nil => rfl
  | cons a M ih =>
    unfold rank at ih ⊢
    cases a <;> simp [ih]
theorem rank_addR {M : Mat} {r : Row} (h : M[low r.1]? = some none) : rank (addR M r) = rank M + 1 := by
  unfold addR
  rw [rank_set _ _ _ (by simp [h]), rank_map]

theorem rank_full {M : Mat} (h : rank M = M.length) : ∃ rs : List Row, M = rs.map some := by
  induction M with
  | nil => exact ⟨[], rfl⟩
  | cons a M ih =>
    cases a with
    | none =>
      exfalso
      have := rank_le M
      unfold rank at h this
      simp at h
      omega
    | some r =>
      have : rank M = M.length := by
        unfold rank at h ⊢
        simpa using h
      obtain ⟨rs, e⟩ := ih this
      exact ⟨r :: rs, by rw [e]; rfl⟩

end Go.Proofs.YtamdmkjejpkbiaaGreatDoor
