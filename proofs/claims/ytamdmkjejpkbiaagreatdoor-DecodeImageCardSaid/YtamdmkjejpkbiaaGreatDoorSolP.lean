/- How likely each number of pieces is, in plain Lean: the root, the weights, their sums, the number that chance picks. No program. -/
import Derived.Test.YtamdmkjejpkbiaaGreatDoorRandP
namespace Go.Proofs.YtamdmkjejpkbiaaGreatDoor

/-- The greatest number whose square is at most n. -/
def rootN : Nat → Nat
  | 0 => 0
  | n + 1 => if (rootN n + 1) * (rootN n + 1) ≤ n + 1 then rootN n + 1 else rootN n
theorem rootN_spec (n : Nat) : rootN n * rootN n ≤ n ∧ n < (rootN n + 1) * (rootN n + 1) := by
  induction n with
  | zero => simp [rootN]
  | succ n ih =>
    unfold rootN
    split
    · refine ⟨by assumption, ?_⟩
      have e : (rootN n + 1 + 1) * (rootN n + 1 + 1) = (rootN n + 1) * (rootN n + 1) + 2 * (rootN n + 1) + 1 := by
        rw [Nat.add_mul, Nat.mul_add]; omega
      omega
    · omega
theorem rootN_uniq {n r : Nat} (h1 : r * r ≤ n) (h2 : n < (r + 1) * (r + 1)) : r = rootN n := by
  obtain ⟨a, b⟩ := rootN_spec n
  rcases Nat.lt_trichotomy r (rootN n) with h | h | h
  · have := Nat.mul_le_mul (show r + 1 ≤ rootN n from h) (show r + 1 ≤ rootN n from h); omega
  · exact h
  · have := Nat.mul_le_mul (show rootN n + 1 ≤ r from h) (show rootN n + 1 ≤ r from h); omega
theorem rootN_pos {n : Nat} (h : 1 ≤ n) : 1 ≤ rootN n := by
  obtain ⟨_, b⟩ := rootN_spec n
  rcases Nat.lt_or_ge 0 (rootN n) with h0 | h0
  · exact h0
  · have e : rootN n = 0 := by omega
    rw [e] at b; omega
theorem rootN_le (n : Nat) : rootN n ≤ n := by
  obtain ⟨a, _⟩ := rootN_spec n
  rcases Nat.eq_zero_or_pos (rootN n) with h | h
  · omega
  · have := Nat.mul_le_mul_left (rootN n) h; omega

def weightA (n d : Nat) : Nat := if 1 < d then 1048576 / (d * (d - 1)) else 1048576 / n
def weightB (n d : Nat) : Nat := if d < n / rootN n then 262144 * rootN n / (d * n) else if d = n / rootN n then 524288 * rootN n / n else 0
/-- How likely the number d is, of n pieces. -/
def weightN (n d : Nat) : Nat := weightA n d + weightB n d
theorem weightA_le (n d : Nat) : weightA n d ≤ 1048576 := by unfold weightA; split <;> exact Nat.div_le_self _ _
theorem weightB_le {n : Nat} (h : n ≤ 80) (d : Nat) : weightB n d ≤ 524288 * 80 := by
  have hr := rootN_le n
  unfold weightB
  split
  · exact Nat.le_trans (Nat.div_le_self _ _) (by omega)
  · split
    · exact Nat.le_trans (Nat.div_le_self _ _) (by omega)
    · omega
theorem weightN_lt {n : Nat} (h : n ≤ 80) (d : Nat) : weightN n d < 50000000 := by
  have := weightA_le n d
  have := weightB_le h d
  unfold weightN
  omega
theorem weightN_pos {n : Nat} (h1 : 1 ≤ n) (h : n ≤ 80) : 1 ≤ weightN n 1 := by
  unfold weightN weightA
  rw [if_neg (by omega)]
  have : 1 ≤ 1048576 / n := by rw [Nat.le_div_iff_mul_le (by omega)]; omega
  omega

/-- The sum of the weights of 1 to i. -/
def cumN (n : Nat) : Nat → Nat
  | 0 => 0
  | i + 1 => cumN n i + weightN n (i + 1)
theorem cumN_lt {n : Nat} (h : n ≤ 80) (i : Nat) : cumN n i ≤ 50000000 * i := by
  induction i with
  | zero => simp [cumN]
  | succ i ih => have := weightN_lt h (i + 1); unfold cumN; omega
theorem cumN_mono {n i j : Nat} (h : i ≤ j) : cumN n i ≤ cumN n j := by
  induction j with
  | zero => have : i = 0 := by omega
            subst this; exact Nat.le_refl _
  | succ j ih =>
    rcases Nat.lt_or_ge i (j + 1) with h1 | h1
    · have := ih (by omega)
      show cumN n i ≤ cumN n j + weightN n (j + 1)
      omega
    · have : i = j + 1 := by omega
      subst this; exact Nat.le_refl _
theorem cumN_pos {n : Nat} (h1 : 1 ≤ n) (h : n ≤ 80) : 1 ≤ cumN n n := by
  have := weightN_pos h1 h
  have := cumN_mono (n := n) h1
  have e : cumN n 1 = weightN n 1 := by simp [cumN]
  omega

/-- The least i below n of which a test holds; n: there is none. -/
def firstN (p : Nat → Bool) : Nat → Nat
  | 0 => 0
  | n + 1 => if firstN p n < n then firstN p n else if p n then n else n + 1
theorem firstN_spec (p : Nat → Bool) (n : Nat) : firstN p n ≤ n ∧ (∀ i, i < firstN p n → p i = false) ∧ (firstN p n < n → p (firstN p n) = true) := by
  induction n with
  | zero => simp [firstN]
  | succ n ih =>
    obtain ⟨a, b, c⟩ := ih
    unfold firstN
    by_cases h : firstN p n < n
    · rw [if_pos h]; exact ⟨by omega, b, fun _ => c h⟩
    · have e : firstN p n = n := by omega
      rw [if_neg h]
      rw [e] at b
      by_cases hp : p n = true
      · rw [if_pos hp]; exact ⟨by omega, b, fun _ => hp⟩
      · rw [if_neg hp]
        refine ⟨Nat.le_refl _, fun i hi => ?_, fun h => by omega⟩
        rcases Nat.lt_succ_iff_lt_or_eq.1 hi with h1 | h1
        · exact b i h1
        · subst h1; simpa using hp
theorem firstN_uniq {p : Nat → Bool} {n r : Nat} (h1 : r ≤ n) (h2 : ∀ i, i < r → p i = false) (h3 : r < n → p r = true) : r = firstN p n := by
  obtain ⟨a, b, c⟩ := firstN_spec p n
  rcases Nat.lt_trichotomy r (firstN p n) with h | h | h
  · have := b r h; rw [h3 (by omega)] at this; simp at this
  · exact h
  · have := h2 _ h; rw [c (by omega)] at this; simp at this

/-- The number that chance picks. -/
def degN (n x : Nat) : Nat := 1 + firstN (fun i => decide (x * cumN n n / 4294967296 < cumN n (i + 1))) n
theorem degN_bound {n x : Nat} (h1 : 1 ≤ n) (h : n ≤ 80) (hx : x < 4294967296) : 1 ≤ degN n x ∧ degN n x ≤ n := by
  unfold degN
  refine ⟨by omega, ?_⟩
  obtain ⟨a, b, c⟩ := firstN_spec (fun i => decide (x * cumN n n / 4294967296 < cumN n (i + 1))) n
  generalize hr : firstN (fun i => decide (x * cumN n n / 4294967296 < cumN n (i + 1))) n = r at *
  rcases Nat.lt_or_ge r n with hlt | hge
  · omega
  · have := b (n - 1) (by omega)
    simp only [decide_eq_false_iff_not, show n - 1 + 1 = n by omega] at this
    have hp := cumN_pos h1 h
    have : x * cumN n n / 4294967296 < cumN n n := by
      rw [Nat.div_lt_iff_lt_mul (by decide), Nat.mul_comm]
      exact Nat.mul_lt_mul_of_pos_left hx (by omega)
    omega

end Go.Proofs.YtamdmkjejpkbiaaGreatDoor
