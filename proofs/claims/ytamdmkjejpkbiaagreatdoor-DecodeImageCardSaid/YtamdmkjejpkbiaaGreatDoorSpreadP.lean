/- Which pieces a symbol sums, in plain Lean: parameters, the row of a symbol, the rows of parity. No program. -/
import Derived.Test.YtamdmkjejpkbiaaGreatDoorSolP
namespace Go.Proofs.YtamdmkjejpkbiaaGreatDoor

/-- How an image is coded. -/
structure Par where
  ses : Nat
  K : Nat
  P : Nat
  sz : Nat

/-- Parameters that may be. -/
structure Par.Ok (p : Par) : Prop where
  s : p.ses < 4294967296
  k1 : 1 ≤ p.K
  k2 : p.K ≤ 64
  p2 : p.P ≤ 16
  z1 : 1 ≤ p.sz
  z2 : p.sz ≤ 16

/-- How many pieces there are. -/
def Par.n (p : Par) : Nat := p.K + p.P
theorem Par.Ok.n1 {p : Par} (h : p.Ok) : 1 ≤ p.n := by have := h.k1; unfold Par.n; omega
theorem Par.Ok.n2 {p : Par} (h : p.Ok) : p.n ≤ 80 := by have := h.k2; have := h.p2; unfold Par.n; omega

/-- The row of a symbol whose number is not a piece's. -/
def rowFar (p : Par) (id : Nat) : Nat := ofBits (someL p.n (nextS (seed p.ses id)) (degN p.n (mix (nextS (seed p.ses id)))))
/-- The row of a symbol. -/
def rowN (p : Par) (id : Nat) : Nat := if id < p.K then 2 ^ id else rowFar p id
theorem rowN_lt {p : Par} (id : Nat) : rowN p id < 2 ^ p.n := by
  unfold rowN
  split
  · exact Nat.pow_lt_pow_right (by omega) (by unfold Par.n; omega)
  · exact ofBits_lt fun i hi => someL_mem hi

/-- The state behind some numbers. -/
def srcAt (s : Nat) : Nat → Nat
  | 0 => s
  | i + 1 => nextS (srcAt s i)
theorem srcAt_lt {s : Nat} (h : s < 4294967296) (i : Nat) : srcAt s i < 4294967296 := by
  induction i with
  | zero => exact h
  | succ i ih => exact nextS_lt ih

/-- The bits of parity below k. -/
def parAcc (s b : Nat) : Nat → Nat
  | 0 => b
  | k + 1 => if mix (srcAt s (k + 1)) % 2 = 1 then parAcc s b k ||| 2 ^ k else parAcc s b k
/-- The row of parity number j. -/
def parRow (p : Par) (j : Nat) : Nat := parAcc (seed p.ses (2147483648 + j)) (2 ^ (p.K + j)) p.K
theorem parAcc_bit (s b k i : Nat) (hi : k ≤ i) : (parAcc s b k).testBit i = b.testBit i := by
  induction k with
  | zero => rfl
  | succ k ih =>
    unfold parAcc
    split
    · rw [Nat.testBit_or, ih (by omega), Nat.testBit_two_pow, decide_eq_false (by omega), Bool.or_false]
    · exact ih (by omega)
theorem parAcc_lt {s b k n : Nat} (hb : b < 2 ^ n) (hk : k ≤ n) : parAcc s b k < 2 ^ n := by
  induction k with
  | zero => exact hb
  | succ k ih =>
    unfold parAcc
    split
    · exact or_pow_lt (ih (by omega)) (by omega)
    · exact ih (by omega)
theorem parRow_lt {p : Par} {j : Nat} (hj : j < p.P) : parRow p j < 2 ^ p.n :=
  parAcc_lt (Nat.pow_lt_pow_right (by omega) (by unfold Par.n; omega)) (by unfold Par.n; omega)
theorem parRow_bit {p : Par} {j i : Nat} (hi : p.K ≤ i) : (parRow p j).testBit i = decide (i = p.K + j) := by
  unfold parRow
  rw [parAcc_bit _ _ _ _ hi, Nat.testBit_two_pow]
  exact decide_eq_decide.2 (by omega)

end Go.Proofs.YtamdmkjejpkbiaaGreatDoor
