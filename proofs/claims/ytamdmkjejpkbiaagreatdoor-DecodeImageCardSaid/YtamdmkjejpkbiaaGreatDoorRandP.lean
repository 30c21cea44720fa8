/- Numbers by chance, in plain Lean: the mixing, the next state, a number below another one, some numbers below another one. No program. -/
import Derived.Test.YtamdmkjejpkbiaaGreatDoorBits
namespace Go.Proofs.YtamdmkjejpkbiaaGreatDoor

def mix1 (x : Nat) : Nat := (x ^^^ x / 65536) * 2146121005 % 4294967296
def mix2 (x : Nat) : Nat := (x ^^^ x / 32768) * 2221713035 % 4294967296
def mix (x : Nat) : Nat := mix2 (mix1 x) ^^^ mix2 (mix1 x) / 65536

theorem mix1_lt (x : Nat) : mix1 x < 4294967296 := Nat.mod_lt _ (by decide)
theorem mix2_lt (x : Nat) : mix2 x < 4294967296 := Nat.mod_lt _ (by decide)
theorem xor_div_lt {x n : Nat} (h : x < 4294967296) : x ^^^ x / n < 4294967296 :=
  Nat.xor_lt_two_pow (n := 32) h (Nat.lt_of_le_of_lt (Nat.div_le_self _ _) h)
theorem mix_lt (x : Nat) : mix x < 4294967296 := xor_div_lt (mix2_lt _)

def seed (a b : Nat) : Nat := (mix a + b * 2654435769 + 1) % 4294967296
theorem seed_lt (a b : Nat) : seed a b < 4294967296 := Nat.mod_lt _ (by decide)

def stepA (x : Nat) : Nat := x ^^^ x * 8192 % 4294967296
def stepB (x : Nat) : Nat := x ^^^ x / 131072
def stepC (x : Nat) : Nat := x ^^^ x * 32 % 4294967296
def fromZero (x : Nat) : Nat := if x = 0 then 1 else x
/-- The next state. -/
def nextS (s : Nat) : Nat := stepC (stepB (stepA (fromZero s)))
theorem fromZero_lt {x : Nat} (h : x < 4294967296) : fromZero x < 4294967296 := by unfold fromZero; split <;> omega
theorem stepA_lt {x : Nat} (h : x < 4294967296) : stepA x < 4294967296 := Nat.xor_lt_two_pow (n := 32) h (Nat.mod_lt _ (by decide))
theorem stepB_lt {x : Nat} (h : x < 4294967296) : stepB x < 4294967296 := xor_div_lt h
theorem stepC_lt {x : Nat} (h : x < 4294967296) : stepC x < 4294967296 := Nat.xor_lt_two_pow (n := 32) h (Nat.mod_lt _ (by decide))
theorem nextS_lt {s : Nat} (h : s < 4294967296) : nextS s < 4294967296 := stepC_lt (stepB_lt (stepA_lt (fromZero_lt h)))

/-- A number below n, of a state. -/
def belowN (s n : Nat) : Nat := mix (nextS s) * n / 4294967296
theorem belowN_lt (s n : Nat) (h : 0 < n) : belowN s n < n := by
  unfold belowN
  have := mix_lt (nextS s)
  rw [Nat.div_lt_iff_lt_mul (by decide)]
  rw [Nat.mul_comm]
  exact Nat.mul_lt_mul_of_pos_left this h

/-- Two places change. -/
def swapAt (l : List Nat) (i j : Nat) : List Nat := (l.set i (l[j]?.getD 0)).set j (l[i]?.getD 0)
theorem swapAt_length (l : List Nat) (i j : Nat) : (swapAt l i j).length = l.length := by simp [swapAt]
theorem mem_swapAt {l : List Nat} {i j x : Nat} (hi : i < l.length) (hj : j < l.length) (h : x ∈ swapAt l i j) : x ∈ l := by
  unfold swapAt at h
  have a : l[i]?.getD 0 ∈ l := by rw [List.getElem?_eq_getElem hi]; exact List.getElem_mem hi
  have b : l[j]?.getD 0 ∈ l := by rw [List.getElem?_eq_getElem hj]; exact List.getElem_mem hj
  rcases List.mem_or_eq_of_mem_set h with h | rfl
  · rcases List.mem_or_eq_of_mem_set h with h | rfl
    · exact h
    · exact b
  · exact a

/-- Round i of the drawing: the state and the row of numbers. -/
def someStep (n i : Nat) (t : Nat × List Nat) : Nat × List Nat := (nextS t.1, swapAt t.2 i (i + belowN t.1 (n - i)))
/-- The state and the row behind i rounds. -/
def someAt (n s : Nat) : Nat → Nat × List Nat
  | 0 => (s, List.range n)
  | i + 1 => someStep n i (someAt n s i)
theorem someAt_length (n s i : Nat) : (someAt n s i).2.length = n := by
  induction i with
  | zero => simp [someAt]
  | succ i ih => simp [someAt, someStep, swapAt_length, ih]
theorem someAt_lt {n s : Nat} (h : s < 4294967296) (i : Nat) : (someAt n s i).1 < 4294967296 := by
  induction i with
  | zero => exact h
  | succ i ih => exact nextS_lt ih
theorem someAt_mem {n s i : Nat} (hi : i ≤ n) {x : Nat} (hx : x ∈ (someAt n s i).2) : x < n := by
  induction i generalizing x with
  | zero => simpa [someAt] using hx
  | succ i ih =>
    have hb := belowN_lt (someAt n s i).1 (n - i) (by omega)
    exact ih (by omega) (mem_swapAt (by rw [someAt_length]; omega) (by rw [someAt_length]; omega) hx)

/-- The numbers that are drawn, in the order in which they are drawn. -/
def someL (n s k : Nat) : List Nat := (someAt n s (min k n)).2.take (min k n)
theorem someL_mem {n s k x : Nat} (h : x ∈ someL n s k) : x < n := someAt_mem (Nat.min_le_right _ _) (List.mem_of_mem_take h)
theorem someL_length (n s k : Nat) : (someL n s k).length = min k n := by simp [someL, someAt_length]

/-- The bits of a list. -/
def ofBits (l : List Nat) : Nat := l.foldl (fun x i => x ||| 2 ^ i) 0
theorem ofBits_snoc (l : List Nat) (i : Nat) : ofBits (l ++ [i]) = ofBits l ||| 2 ^ i := by simp [ofBits]
theorem foldl_or_bit (l : List Nat) (x i : Nat) : (l.foldl (fun x i => x ||| 2 ^ i) x).testBit i = (x.testBit i || decide (i ∈ l)) := by
  induction l generalizing x with
  | nil => simp
  | cons a l ih =>
    rw [List.foldl_cons, ih, Nat.testBit_or, Nat.testBit_two_pow]
    by_cases h : i = a
    · subst h; simp
    · have h' : a ≠ i := fun e => h e.symm
      simp [h, h']
theorem ofBits_bit (l : List Nat) (i : Nat) : (ofBits l).testBit i = decide (i ∈ l) := by
  unfold ofBits; rw [foldl_or_bit]; simp
theorem ofBits_congr {l l' : List Nat} (h : ∀ i, i ∈ l ↔ i ∈ l') : ofBits l = ofBits l' := by
  apply Nat.eq_of_testBit_eq
  intro i
  rw [ofBits_bit, ofBits_bit]
  exact decide_eq_decide.2 (h i)
theorem ofBits_lt {l : List Nat} {n : Nat} (h : ∀ i, i ∈ l → i < n) : ofBits l < 2 ^ n := by
  apply Nat.lt_pow_two_of_testBit
  intro i hi
  rw [ofBits_bit]
  exact decide_eq_false fun hm => by have := h i hm; omega

end Go.Proofs.YtamdmkjejpkbiaaGreatDoor
