/- Rows of bits as numbers: the words of a number, and what setting, summing, reading a bit does to them. Plain Lean, no program. -/
namespace Go.Proofs.YtamdmkjejpkbiaaGreatDoor

/-- How many words hold n bits. -/
def wds (n : Nat) : Nat := (n + 63) / 64

/-- The j-th word of a number. -/
def word (x j : Nat) : Nat := x / 2 ^ (64 * j) % 2 ^ 64

theorem word_lt (x j : Nat) : word x j < 18446744073709551616 := Nat.mod_lt _ (by decide)

theorem word_bit (x j k : Nat) (hk : k < 64) : (word x j).testBit k = x.testBit (64 * j + k) := by
  unfold word
  rw [Nat.testBit_mod_two_pow, Nat.testBit_div_two_pow]
  simp [hk, Nat.add_comm]

theorem word_bit_big (x j k : Nat) (hk : ¬ k < 64) : (word x j).testBit k = false := by
  unfold word
  rw [Nat.testBit_mod_two_pow]
  simp [hk]

theorem word_ext {a x j : Nat} (ha : a < 2 ^ 64) (h : ∀ k, k < 64 → a.testBit k = x.testBit (64 * j + k)) : a = word x j := by
  apply Nat.eq_of_testBit_eq
  intro k
  by_cases hk : k < 64
  · rw [word_bit _ _ _ hk, h k hk]
  · rw [word_bit_big _ _ _ hk]
    exact Nat.testBit_lt_two_pow (Nat.lt_of_lt_of_le ha (Nat.pow_le_pow_right (by omega) (by omega)))

theorem word_zero (j : Nat) : word 0 j = 0 := by simp [word]

theorem word_or (x y j : Nat) : word (x ||| y) j = word x j ||| word y j := by
  symm
  apply word_ext
  · exact Nat.or_lt_two_pow (word_lt _ _) (word_lt _ _)
  · intro k hk
    rw [Nat.testBit_or, Nat.testBit_or, word_bit _ _ _ hk, word_bit _ _ _ hk]

theorem word_xor (x y j : Nat) : word (x ^^^ y) j = word x j ^^^ word y j := by
  symm
  apply word_ext
  · exact Nat.xor_lt_two_pow (word_lt _ _) (word_lt _ _)
  · intro k hk
    rw [Nat.testBit_xor, Nat.testBit_xor, word_bit _ _ _ hk, word_bit _ _ _ hk]

theorem word_pow_same (i : Nat) : word (2 ^ i) (i / 64) = 2 ^ (i % 64) := by
  symm
  apply word_ext
  · exact Nat.pow_lt_pow_right (by omega) (by omega)
  · intro k hk
    rw [Nat.testBit_two_pow, Nat.testBit_two_pow]
    exact decide_eq_decide.2 (by omega)

theorem word_pow_other (i j : Nat) (h : j ≠ i / 64) : word (2 ^ i) j = 0 := by
  symm
  apply word_ext (by decide)
  intro k hk
  rw [Nat.testBit_two_pow, Nat.zero_testBit]
  exact (decide_eq_false (by omega)).symm

theorem word_set (x i : Nat) : word (x ||| 2 ^ i) (i / 64) = word x (i / 64) ||| 2 ^ (i % 64) := by rw [word_or, word_pow_same]
theorem word_set_other (x i j : Nat) (h : j ≠ i / 64) : word (x ||| 2 ^ i) j = word x j := by rw [word_or, word_pow_other i j h, Nat.or_zero]

/-- Reading a bit as the program does. -/
theorem word_has (x i : Nat) : word x (i / 64) / 2 ^ (i % 64) % 2 = if x.testBit i then 1 else 0 := by
  have h : (word x (i / 64)).testBit (i % 64) = x.testBit i := by
    rw [word_bit _ _ _ (Nat.mod_lt _ (by decide))]; congr 1; omega
  rw [Nat.testBit_eq_decide_div_mod_eq] at h
  have := Nat.mod_two_eq_zero_or_one (word x (i / 64) / 2 ^ (i % 64))
  cases hx : x.testBit i <;> simp [hx] at h ⊢ <;> omega

/-- A word whose bit is not set stays, if that bit is cleared. -/
theorem word_clear (x i : Nat) (h : x.testBit i = false) : word x (i / 64) &&& (18446744073709551615 - 2 ^ (i % 64)) = word x (i / 64) := by
  apply Nat.eq_of_testBit_eq
  intro k
  rw [Nat.testBit_and]
  have e : (18446744073709551615 - 2 ^ (i % 64)).testBit k = (decide (k < 64) && !(2 ^ (i % 64)).testBit k) := by
    have hp : 2 ^ (i % 64) < 2 ^ 64 := Nat.pow_lt_pow_right (by omega) (Nat.mod_lt _ (by decide))
    have := Nat.testBit_two_pow_sub_succ (n := 64) (x := 2 ^ (i % 64)) hp k
    rw [show (18446744073709551615 - 2 ^ (i % 64)) = 2 ^ 64 - (2 ^ (i % 64) + 1) by omega]
    exact this
  rw [e, Nat.testBit_two_pow]
  by_cases hk : k < 64
  · by_cases hki : i % 64 = k
    · subst hki
      rw [word_bit _ _ _ hk, show 64 * (i / 64) + i % 64 = i by omega, h]; simp
    · simp [hk, hki]
  · rw [word_bit_big _ _ _ hk]; rfl

theorem div64_lt {i n : Nat} (h : i < n) : i / 64 < wds n := by unfold wds; omega

/-- A number below 2^n has no word from wds n on. -/
theorem eq_of_words {x y n : Nat} (hx : x < 2 ^ n) (hy : y < 2 ^ n) (h : ∀ j, j < wds n → word x j = word y j) : x = y := by
  apply Nat.eq_of_testBit_eq
  intro i
  by_cases hi : i < n
  · have := h (i / 64) (div64_lt hi)
    have h2 : (word x (i / 64)).testBit (i % 64) = (word y (i / 64)).testBit (i % 64) := by rw [this]
    rw [word_bit _ _ _ (Nat.mod_lt _ (by decide)), word_bit _ _ _ (Nat.mod_lt _ (by decide)), show 64 * (i / 64) + i % 64 = i by omega] at h2
    exact h2
  · rw [Nat.testBit_lt_two_pow (Nat.lt_of_lt_of_le hx (Nat.pow_le_pow_right (by omega) (by omega))), Nat.testBit_lt_two_pow (Nat.lt_of_lt_of_le hy (Nat.pow_le_pow_right (by omega) (by omega)))]

theorem or_pow_lt {x i n : Nat} (hx : x < 2 ^ n) (hi : i < n) : x ||| 2 ^ i < 2 ^ n := Nat.or_lt_two_pow hx (Nat.pow_lt_pow_right (by omega) hi)

/-- The lowest bit that is set. -/
def low (x : Nat) : Nat := if x = 0 then 0 else if x % 2 = 1 then 0 else 1 + low (x / 2)
termination_by x

theorem low_spec (x : Nat) (h : x ≠ 0) : x.testBit (low x) = true ∧ ∀ i, i < low x → x.testBit i = false := by
  induction x using Nat.strongRecOn with
  | ind x ih =>
    rw [low, if_neg h]
    by_cases h1 : x % 2 = 1
    · rw [if_pos h1]
      exact ⟨by rw [Nat.testBit_zero]; simp [h1], fun i hi => by omega⟩
    · rw [if_neg h1]
      have h2 : x / 2 ≠ 0 := by omega
      obtain ⟨a, b⟩ := ih (x / 2) (by omega) h2
      refine ⟨by rw [Nat.add_comm, Nat.testBit_succ]; exact a, fun i hi => ?_⟩
      cases i with
      | zero => rw [Nat.testBit_zero]; simp; omega
      | succ i => rw [Nat.testBit_succ]; exact b i (by omega)

theorem low_uniq {x i : Nat} (h : x.testBit i = true) (hm : ∀ j, j < i → x.testBit j = false) : low x = i := by
  have h0 : x ≠ 0 := by intro e; subst e; simp at h
  obtain ⟨a, b⟩ := low_spec x h0
  rcases Nat.lt_trichotomy (low x) i with h1 | h1 | h1
  · rw [hm _ h1] at a; simp at a
  · exact h1
  · rw [b _ h1] at h; simp at h

theorem low_lt {x n : Nat} (h : x ≠ 0) (hx : x < 2 ^ n) : low x < n := by
  rcases Nat.lt_or_ge (low x) n with h1 | h1
  · exact h1
  · have a := (low_spec x h).1
    rw [Nat.testBit_lt_two_pow (Nat.lt_of_lt_of_le hx (Nat.pow_le_pow_right (by omega) h1))] at a
    simp at a

/-- The lowest bit through the words. -/
theorem low_word {x j : Nat} (h : word x j ≠ 0) (hm : ∀ i, i < j → word x i = 0) : low x = 64 * j + low (word x j) := by
  obtain ⟨a, b⟩ := low_spec _ h
  have hl : low (word x j) < 64 := low_lt (n := 64) h (word_lt x j)
  apply low_uniq
  · rw [← word_bit _ _ _ hl]; exact a
  · intro i hi
    by_cases hij : i / 64 < j
    · have := congrArg (fun t => t.testBit (i % 64)) (hm _ hij)
      simp only [Nat.zero_testBit] at this
      rw [word_bit _ _ _ (Nat.mod_lt _ (by decide)), show 64 * (i / 64) + i % 64 = i by omega] at this
      exact this
    · have e : i / 64 = j := by omega
      have hk : i % 64 < low (word x j) := by omega
      have := b _ hk
      rw [word_bit _ _ _ (by omega), show 64 * j + i % 64 = i by omega] at this
      exact this

theorem ne_zero_word {x n : Nat} (hx : x < 2 ^ n) (h : ∀ j, j < wds n → word x j = 0) : x = 0 :=
  eq_of_words hx (Nat.two_pow_pos n) fun j hj => by rw [h j hj, word_zero]

/-- The bits that are set, rising. -/
def bitsOf (n x : Nat) : List Nat := (List.range n).filter fun i => x.testBit i
theorem bitsOf_succ (n x : Nat) : bitsOf (n + 1) x = bitsOf n x ++ if x.testBit n then [n] else [] := by
  unfold bitsOf
  rw [List.range_succ, List.filter_append]
  congr 1
  cases h : x.testBit n <;> simp [h]
theorem bitsOf_le (n x : Nat) : (bitsOf n x).length ≤ n := by
  have := List.length_filter_le (fun i => x.testBit i) (List.range n)
  simpa [bitsOf] using this
theorem mem_bitsOf {n x i : Nat} : i ∈ bitsOf n x ↔ i < n ∧ x.testBit i = true := by simp [bitsOf]

end Go.Proofs.YtamdmkjejpkbiaaGreatDoor
