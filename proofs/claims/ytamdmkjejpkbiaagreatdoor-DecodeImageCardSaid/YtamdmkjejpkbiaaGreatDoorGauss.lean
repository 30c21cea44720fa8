/- Rows that say something new, in plain Lean: what a matrix says is the span of the rows it was offered. No program. -/
import Derived.Test.YtamdmkjejpkbiaaGreatDoorBlockP
namespace Go.Proofs.YtamdmkjejpkbiaaGreatDoor

/-- The row in a place. -/
def pv (M : Mat) (i : Nat) : Option Row := M[i]?.getD none
theorem pv_lt {M : Mat} {i : Nat} {r : Row} (h : pv M i = some r) : i < M.length := by
  rcases Nat.lt_or_ge i M.length with h1 | h1
  · exact h1
  · unfold pv at h; rw [List.getElem?_eq_none h1] at h; simp at h
theorem pv_get {M : Mat} {i : Nat} {r : Row} : pv M i = some r ↔ M[i]? = some (some r) := by
  unfold pv
  cases h : M[i]? with
  | none => simp
  | some o => simp

/-- What holds of a matrix: each row's lowest bit is its place; no other row has it. -/
structure Inv (n : Nat) (M : Mat) : Prop where
  len : M.length = n
  one : ∀ {i r}, pv M i = some r → r.1.testBit i = true
  lo : ∀ {i r j}, pv M i = some r → j < i → r.1.testBit j = false
  lt : ∀ {i r}, pv M i = some r → r.1 < 2 ^ n
  red : ∀ {i j r s}, pv M i = some r → pv M j = some s → i ≠ j → r.1.testBit j = false

theorem Inv.mat0 (n : Nat) : Inv n (mat0 n) := by
  have h : ∀ i r, ¬ pv (Go.Proofs.YtamdmkjejpkbiaaGreatDoor.mat0 n) i = some r := fun i r h => by
    rw [pv_get] at h
    simp only [Go.Proofs.YtamdmkjejpkbiaaGreatDoor.mat0, List.getElem?_replicate] at h
    split at h <;> simp at h
  exact ⟨by simp [Go.Proofs.YtamdmkjejpkbiaaGreatDoor.mat0], fun h' => (h _ _ h').elim, fun h' => (h _ _ h').elim, fun h' => (h _ _ h').elim, fun h' => (h _ _ h').elim⟩

theorem redAt_succ (M : Mat) (y : Row) (k : Nat) : redAt M y (k + 1) = redStep k (pv M k) (redAt M y k) := rfl
theorem redStep_none (i : Nat) (y : Row) : redStep i none y = y := rfl
theorem redStep_some (i : Nat) (r y : Row) : redStep i (some r) y = if y.1.testBit i then xorR y r else y := rfl

/-- The places of rows are cleared, one after another. -/
theorem redAt_piv {n : Nat} {M : Mat} (h : Inv n M) (y : Row) {j : Nat} {s : Row} (hs : pv M j = some s) (k : Nat) : (redAt M y k).1.testBit j = if j < k then false else y.1.testBit j := by
  induction k with
  | zero => simp [redAt]
  | succ k ih =>
    rw [redAt_succ]
    by_cases e : j = k
    · subst e
      rw [hs, redStep_some]
      rw [if_neg (Nat.lt_irrefl j)] at ih
      rw [show (if j < j + 1 then false else y.1.testBit j) = false from if_pos (Nat.lt_succ_self j)]
      by_cases hb : (redAt M y j).1.testBit j = true
      · rw [if_pos hb]
        simp only [xorR, Nat.testBit_xor, hb, h.one hs]
        rfl
      · rw [if_neg hb]; simpa using hb
    · have e2 : (if j < k + 1 then false else y.1.testBit j) = if j < k then false else y.1.testBit j := by
        by_cases h1 : j < k
        · rw [if_pos h1, if_pos (by omega)]
        · rw [if_neg h1, if_neg (by omega)]
      rw [e2, ← ih]
      cases hp : pv M k with
      | none => rfl
      | some r =>
        rw [redStep_some]
        split
        · simp only [xorR, Nat.testBit_xor, h.red hp hs (Ne.symm e), Bool.xor_false]
        · rfl
theorem reduce_piv {n : Nat} {M : Mat} (h : Inv n M) (y : Row) {j : Nat} {s : Row} (hs : pv M j = some s) : (reduce M y).1.testBit j = false := by
  unfold reduce
  rw [redAt_piv h y hs, if_pos (pv_lt hs)]

/-- The bits of a reduced row. -/
def rd (M : Mat) (x : Nat) : Nat := (reduce M (x, [])).1
theorem rd_data (M : Mat) (x : Nat) (d : List UInt8) : (reduce M (x, d)).1 = rd M x := redAt_bits M x d [] _
theorem rd_row (M : Mat) (y : Row) : (reduce M y).1 = rd M y.1 := rd_data M y.1 y.2
theorem says_rd (M : Mat) (x : Nat) (d : List UInt8) : says M x d = (rd M x != 0) := by unfold says; rw [rd_data]

theorem xor_both (a b r : Nat) : (a ^^^ r) ^^^ (b ^^^ r) = a ^^^ b := by
  apply Nat.eq_of_testBit_eq
  intro i
  simp only [Nat.testBit_xor]
  cases a.testBit i <;> cases b.testBit i <;> cases r.testBit i <;> rfl
theorem xor_left (a b r : Nat) : (a ^^^ r) ^^^ b = (a ^^^ b) ^^^ r := by
  rw [Nat.xor_assoc, Nat.xor_comm r b, ← Nat.xor_assoc]
theorem xor_right (a b r : Nat) : a ^^^ (b ^^^ r) = (a ^^^ b) ^^^ r := (Nat.xor_assoc _ _ _).symm
theorem xor_cancel (a b : Nat) : (a ^^^ b) ^^^ b = a := by rw [Nat.xor_assoc, Nat.xor_self, Nat.xor_zero]
theorem xor_eq_zero {a b : Nat} (h : a ^^^ b = 0) : a = b := by
  have := xor_cancel a b
  rw [h, Nat.zero_xor] at this
  exact this.symm

theorem redAt_lin (M : Mat) (x y : Nat) (k : Nat) : (redAt M (x ^^^ y, []) k).1 = (redAt M (x, []) k).1 ^^^ (redAt M (y, []) k).1 := by
  induction k with
  | zero => rfl
  | succ k ih =>
    rw [redAt_succ, redAt_succ, redAt_succ]
    cases pv M k with
    | none => exact ih
    | some r =>
      rw [redStep_some, redStep_some, redStep_some, ih, Nat.testBit_xor]
      cases h1 : (redAt M (x, []) k).1.testBit k <;> cases h2 : (redAt M (y, []) k).1.testBit k <;> simp only [xorR, ih, Bool.xor_false, Bool.xor_true, Bool.not_true, Bool.not_false, Bool.false_eq_true, if_true, if_false]
      · rw [xor_right]
      · rw [xor_left]
      · rw [xor_both]
theorem rd_lin (M : Mat) (x y : Nat) : rd M (x ^^^ y) = rd M x ^^^ rd M y := redAt_lin M x y _
theorem rd_zero (M : Mat) : rd M 0 = 0 := by
  have := rd_lin M 0 0
  rw [Nat.xor_self, Nat.xor_self] at this
  exact this

/-- A bit without a row, all lower ones clear, stays. -/
theorem redAt_low {n : Nat} {M : Mat} (h : Inv n M) {y : Row} {i : Nat} (hi : pv M i = none) (h1 : y.1.testBit i = true) (h2 : ∀ j, j < i → y.1.testBit j = false) (k : Nat) :
    (redAt M y k).1.testBit i = true ∧ ∀ j, j < i → (redAt M y k).1.testBit j = false := by
  induction k with
  | zero => exact ⟨h1, h2⟩
  | succ k ih =>
    rw [redAt_succ]
    cases hp : pv M k with
    | none => exact ih
    | some r =>
      rw [redStep_some]
      split
      · rename_i hb
        have hk : i < k := by
          rcases Nat.lt_trichotomy i k with e | e | e
          · exact e
          · subst e; rw [hi] at hp; simp at hp
          · rw [ih.2 k e] at hb; simp at hb
        refine ⟨by simp only [xorR, Nat.testBit_xor, ih.1, h.lo hp hk]; rfl, fun j hj => ?_⟩
        simp only [xorR, Nat.testBit_xor, ih.2 j hj, h.lo hp (Nat.lt_trans hj hk)]; rfl
      · exact ih

/-- A row of the matrix is reduced to nothing. -/
theorem redAt_own {n : Nat} {M : Mat} (h : Inv n M) {i : Nat} {r : Row} (hr : pv M i = some r) (k : Nat) : (redAt M (r.1, []) k).1 = if i < k then 0 else r.1 := by
  induction k with
  | zero => simp [redAt]
  | succ k ih =>
    rw [redAt_succ]
    by_cases e : i = k
    · subst e
      rw [if_neg (by omega)] at ih
      rw [hr, redStep_some, if_pos (by rw [ih]; exact h.one hr), if_pos (by omega)]
      simp only [xorR, ih, Nat.xor_self]
    · have e2 : (if i < k + 1 then 0 else r.1) = if i < k then 0 else r.1 := by
        by_cases h1 : i < k
        · rw [if_pos h1, if_pos (by omega)]
        · rw [if_neg h1, if_neg (by omega)]
      rw [e2]
      cases hp : pv M k with
      | none => exact ih
      | some s =>
        have hb : (redAt M (r.1, []) k).1.testBit k = false := by
          rw [ih]
          split
          · simp
          · exact h.red hr hp e
        rw [redStep_some, hb]
        exact ih
theorem rd_own {n : Nat} {M : Mat} (h : Inv n M) {i : Nat} {r : Row} (hr : pv M i = some r) : rd M r.1 = 0 := by
  unfold rd reduce
  rw [redAt_own h hr, if_pos (pv_lt hr)]

/-- What is taken off is a sum of rows. -/
theorem redAt_diff {M : Mat} {T : Nat → Prop} (h0 : T 0) (hx : ∀ a b, T a → T b → T (a ^^^ b)) (hr : ∀ i r, pv M i = some r → T r.1) (y : Row) (k : Nat) : T (y.1 ^^^ (redAt M y k).1) := by
  induction k with
  | zero => simp only [redAt, Nat.xor_self]; exact h0
  | succ k ih =>
    rw [redAt_succ]
    cases hp : pv M k with
    | none => exact ih
    | some r =>
      rw [redStep_some]
      split
      · simp only [xorR]
        rw [xor_right]
        exact hx _ _ ih (hr k r hp)
      · exact ih

theorem pv_addR (M : Mat) (r : Row) (hl : low r.1 < M.length) (i : Nat) : pv (addR M r) i = if i = low r.1 then some r else (pv M i).map (upd r) := by
  unfold pv addR
  rw [List.getElem?_set]
  by_cases e : low r.1 = i
  · subst e
    simp [hl]
  · rw [if_neg e, if_neg (fun x => e x.symm), List.getElem?_map]
    cases M[i]? <;> simp

/-- A reduced row with a bit: it may be added. -/
theorem Inv.free {n : Nat} {M : Mat} (h : Inv n M) {y : Row} (hy : y.1 < 2 ^ n) (h0 : (reduce M y).1 ≠ 0) : pv M (low (reduce M y).1) = none ∧ (reduce M y).1 < 2 ^ n ∧ low (reduce M y).1 < n := by
  have hlt : (reduce M y).1 < 2 ^ n := by
    have := redAt_diff (M := M) (T := fun x => x < 2 ^ n) (Nat.two_pow_pos n) (fun a b ha hb => Nat.xor_lt_two_pow ha hb) (fun i r hr => h.lt hr) y M.length
    have := Nat.xor_lt_two_pow this hy
    rw [Nat.xor_comm y.1, xor_cancel] at this
    exact this
  refine ⟨?_, hlt, low_lt h0 hlt⟩
  cases hp : pv M (low (reduce M y).1) with
  | none => rfl
  | some s =>
    have h1 := reduce_piv h y hp
    rw [(low_spec _ h0).1] at h1
    simp at h1
theorem Inv.hfree {n : Nat} {M : Mat} (h : Inv n M) {x : Nat} {d : List UInt8} (hx : x < 2 ^ n) (hs : says M x d = true) : M[low (reduce M (x, d)).1]? = some none := by
  have h0 : (reduce M (x, d)).1 ≠ 0 := by unfold says at hs; simpa using hs
  obtain ⟨a, b, c⟩ := h.free (y := (x, d)) hx h0
  unfold pv at a
  rw [← h.len] at c
  rw [List.getElem?_eq_getElem c] at a ⊢
  simpa using a

theorem Inv.addR {n : Nat} {M : Mat} (h : Inv n M) {y : Row} (hy : y.1 < 2 ^ n) (h0 : (reduce M y).1 ≠ 0) : Inv n (addR M (reduce M y)) := by
  obtain ⟨hp, hlt, hl⟩ := h.free hy h0
  obtain ⟨l1, l2⟩ := low_spec _ h0
  obtain ⟨r, hr⟩ : ∃ r, r = reduce M y := ⟨_, rfl⟩
  have hz : ∀ {j s}, pv M j = some s → r.1.testBit j = false := fun hs => by rw [hr]; exact reduce_piv h y hs
  rw [← hr] at hp hlt hl l1 l2 ⊢
  have hpv := pv_addR M r (by rw [h.len]; exact hl)
  -- an old row, as it is now
  have old : ∀ {i s}, i ≠ low r.1 → pv (Go.Proofs.YtamdmkjejpkbiaaGreatDoor.addR M r) i = some s → ∃ t, pv M i = some t ∧ s = upd r t := fun {i s} hi hs => by
    rw [hpv, if_neg hi] at hs
    cases ht : pv M i with
    | none => rw [ht] at hs; simp at hs
    | some t => rw [ht] at hs; simp at hs; exact ⟨t, rfl, hs.symm⟩
  have new : ∀ {s}, pv (Go.Proofs.YtamdmkjejpkbiaaGreatDoor.addR M r) (low r.1) = some s → s = r := fun {s} hs => by
    rw [hpv, if_pos rfl] at hs
    simpa using hs.symm
  refine ⟨by rw [addR_length]; exact h.len, ?_, ?_, ?_, ?_⟩
  · intro i s hs
    by_cases e : i = low r.1
    · subst e; rw [new hs]; exact l1
    · obtain ⟨t, ht, rfl⟩ := old e hs
      unfold upd
      split
      · simp only [xorR, Nat.testBit_xor, h.one ht, hz ht]; rfl
      · exact h.one ht
  · intro i s j hs hj
    by_cases e : i = low r.1
    · subst e; rw [new hs]; exact l2 j hj
    · obtain ⟨t, ht, rfl⟩ := old e hs
      unfold upd
      split
      · rename_i hb
        have hi : i < low r.1 := by
          rcases Nat.lt_trichotomy i (low r.1) with e' | e' | e'
          · exact e'
          · exact (e e').elim
          · rw [h.lo ht e'] at hb; simp at hb
        simp only [xorR, Nat.testBit_xor, h.lo ht hj, l2 j (by omega)]; rfl
      · exact h.lo ht hj
  · intro i s hs
    by_cases e : i = low r.1
    · subst e; rw [new hs]; exact hlt
    · obtain ⟨t, ht, rfl⟩ := old e hs
      unfold upd
      split
      · exact Nat.xor_lt_two_pow (h.lt ht) hlt
      · exact h.lt ht
  · intro i j s u hs hu hij
    by_cases e : i = low r.1
    · subst e
      rw [new hs]
      obtain ⟨t, ht, rfl⟩ := old (fun e => hij e.symm) hu
      exact hz ht
    · obtain ⟨t, ht, rfl⟩ := old e hs
      by_cases e2 : j = low r.1
      · subst e2
        unfold upd
        split
        · rename_i hb
          simp only [xorR, Nat.testBit_xor, hb, l1]; rfl
        · rename_i hb; simpa using hb
      · obtain ⟨v, hv, rfl⟩ := old e2 hu
        unfold upd
        split
        · simp only [xorR, Nat.testBit_xor, h.red ht hv hij, hz hv]; rfl
        · exact h.red ht hv hij
theorem Inv.add {n : Nat} {M : Mat} (h : Inv n M) {x : Nat} (d : List UInt8) (hx : x < 2 ^ n) : Inv n (add M x d) := by
  unfold Go.Proofs.YtamdmkjejpkbiaaGreatDoor.add
  split
  · rename_i hs
    exact h.addR hx (by unfold says at hs; simpa using hs)
  · exact h

/-- What a matrix says, when one more row has been added. -/
theorem rd_addR {n : Nat} {M : Mat} (h : Inv n M) {x : Nat} {d : List UInt8} (hx : x < 2 ^ n) (h0 : rd M x ≠ 0) (y : Nat) : rd (addR M (reduce M (x, d))) y = 0 ↔ rd M y = 0 ∨ rd M (y ^^^ x) = 0 := by
  have h0' : (reduce M (x, d)).1 ≠ 0 := by rw [rd_data]; exact h0
  have hI := h.addR (y := (x, d)) hx h0'
  obtain ⟨hp, hlt, hl⟩ := h.free (y := (x, d)) hx h0'
  obtain ⟨r, hr⟩ : ∃ r, r = reduce M (x, d) := ⟨_, rfl⟩
  have hr1 : r.1 = rd M x := by rw [hr, rd_data]
  rw [← hr] at hI hp hlt hl ⊢
  have hpv := pv_addR M r (by rw [h.len]; exact hl)
  have hrr : rd M r.1 = r.1 := by
    have h2 := redAt_diff (M := M) (T := fun z => rd M z = 0) (rd_zero M) (fun a b ha hb => by rw [rd_lin, ha, hb]; rfl) (fun i s hs => rd_own h hs) (x, d) M.length
    have h3 : rd M (x ^^^ (reduce M (x, d)).1) = 0 := h2
    rw [rd_lin, ← hr] at h3
    rw [← xor_eq_zero h3, hr1]
  have hown : rd (addR M r) r.1 = 0 := rd_own hI (by rw [hpv, if_pos rfl])
  have hrows : ∀ i s, pv M i = some s → rd (addR M r) s.1 = 0 := fun i s hs => by
    have hi : i ≠ low r.1 := by intro e; rw [e, hp] at hs; simp at hs
    have h1 := rd_own hI (i := i) (r := upd r s) (by rw [hpv, if_neg hi, hs]; rfl)
    unfold upd at h1
    split at h1
    · simp only [xorR] at h1
      rw [rd_lin, hown, Nat.xor_zero] at h1
      exact h1
    · exact h1
  have hsub : ∀ z, rd M z = 0 → rd (addR M r) z = 0 := fun z hz => by
    have h2 := redAt_diff (M := M) (T := fun z => rd (addR M r) z = 0) (rd_zero _) (fun a b ha hb => by rw [rd_lin, ha, hb]; rfl) hrows (z, []) M.length
    have h3 : rd (addR M r) (z ^^^ rd M z) = 0 := h2
    rw [hz, Nat.xor_zero] at h3
    exact h3
  have hx' : rd (addR M r) x = 0 := by
    have h2 := hsub (x ^^^ r.1) (by rw [rd_lin, hrr, hr1, Nat.xor_self])
    rw [rd_lin, hown, Nat.xor_zero] at h2
    exact h2
  constructor
  · intro hy
    have h2 := redAt_diff (M := addR M r) (T := fun z => rd M z = 0 ∨ rd M (z ^^^ x) = 0) (.inl (rd_zero M)) ?_ ?_ (y, []) (addR M r).length
    · have h3 : rd M (y ^^^ rd (addR M r) y) = 0 ∨ rd M ((y ^^^ rd (addR M r) y) ^^^ x) = 0 := h2
      rw [hy, Nat.xor_zero] at h3
      exact h3
    · intro a b ha hb
      simp only [rd_lin] at ha hb ⊢
      rcases ha with ha | ha <;> rcases hb with hb | hb
      · exact .inl (by rw [ha, hb]; rfl)
      · exact .inr (by rw [Nat.xor_assoc, ha, hb]; rfl)
      · exact .inr (by rw [xor_left, ha, hb]; rfl)
      · have e := xor_both (rd M a) (rd M b) (rd M x)
        rw [ha, hb] at e
        exact .inl e.symm
    · intro i s hs
      rw [hpv] at hs
      split at hs
      · simp at hs
        subst hs
        exact .inr (by rw [rd_lin, hrr, hr1, Nat.xor_self])
      · cases ht : pv M i with
        | none => rw [ht] at hs; simp at hs
        | some t =>
          rw [ht] at hs
          simp at hs
          subst hs
          unfold upd
          split
          · exact .inr (by simp only [xorR]; rw [rd_lin, rd_lin, hrr, rd_own h ht, hr1, Nat.zero_xor, Nat.xor_self])
          · exact .inl (rd_own h ht)
  · rintro (hy | hy)
    · exact hsub y hy
    · have h2 := hsub _ hy
      rw [rd_lin, hx', Nat.xor_zero] at h2
      exact h2

/-- The sums of rows. -/
inductive Sp (X : Nat → Prop) : Nat → Prop
  | zero : Sp X 0
  | step {y x : Nat} : Sp X y → X x → Sp X (y ^^^ x)
theorem Sp.xor {X : Nat → Prop} {a b : Nat} (ha : Sp X a) (hb : Sp X b) : Sp X (a ^^^ b) := by
  induction hb with
  | zero => rw [Nat.xor_zero]; exact ha
  | step _ hx ih => rw [xor_right]; exact ih.step hx
theorem Sp.one {X : Nat → Prop} {x : Nat} (h : X x) : Sp X x := by have := Sp.zero.step h; rwa [Nat.zero_xor] at this
theorem Sp.mono {X Y : Nat → Prop} {a : Nat} (h : Sp X a) (hXY : ∀ x, X x → Sp Y x) : Sp Y a := by
  induction h with
  | zero => exact .zero
  | step _ hx ih => exact ih.xor (hXY _ hx)
/-- Another row beside. -/
def plus (X : Nat → Prop) (x : Nat) : Nat → Prop := fun y => X y ∨ y = x
theorem Sp.plus_iff {X : Nat → Prop} {x y : Nat} : Sp (plus X x) y ↔ Sp X y ∨ Sp X (y ^^^ x) := by
  constructor
  · intro h
    induction h with
    | zero => exact .inl .zero
    | step _ hx ih =>
      rcases hx with hx | hx
      · rcases ih with ih | ih
        · exact .inl (ih.step hx)
        · exact .inr (by rw [xor_left]; exact ih.step hx)
      · subst hx
        rcases ih with ih | ih
        · exact .inr (by rw [xor_cancel]; exact ih)
        · exact .inl ih
  · rintro (h | h)
    · exact h.mono fun _ hx => .one (.inl hx)
    · have h1 : Sp (plus X x) (y ^^^ x) := h.mono fun _ hx => .one (.inl hx)
      have h2 := h1.step (.inr rfl : plus X x x)
      rwa [xor_cancel] at h2

/-- A matrix that was offered these rows, and no others. -/
structure Spans (n : Nat) (M : Mat) (X : Nat → Prop) : Prop where
  inv : Inv n M
  iff : ∀ y, rd M y = 0 ↔ Sp X y
theorem Spans.mat0 (n : Nat) : Spans n (mat0 n) fun _ => False := by
  refine ⟨Inv.mat0 n, fun y => ?_⟩
  have h1 : ∀ k, redAt (Go.Proofs.YtamdmkjejpkbiaaGreatDoor.mat0 n) (y, []) k = (y, []) := fun k => by
    induction k with
    | zero => rfl
    | succ k ih =>
      rw [redAt_succ, ih]
      have : pv (Go.Proofs.YtamdmkjejpkbiaaGreatDoor.mat0 n) k = none := by
        unfold pv Go.Proofs.YtamdmkjejpkbiaaGreatDoor.mat0
        rw [List.getElem?_replicate]
        split <;> rfl
      rw [this]; rfl
  unfold rd reduce
  rw [h1]
  constructor
  · intro e
    have e : y = 0 := e
    subst e; exact .zero
  · intro h
    induction h with
    | zero => rfl
    | step _ hx => exact hx.elim
theorem Spans.says {n : Nat} {M : Mat} {X : Nat → Prop} (h : Spans n M X) (x : Nat) (d : List UInt8) : says M x d = true ↔ ¬ Sp X x := by
  rw [says_rd, ← h.iff]; simp
theorem Spans.add {n : Nat} {M : Mat} {X : Nat → Prop} (h : Spans n M X) {x : Nat} (d : List UInt8) (hx : x < 2 ^ n) : Spans n (add M x d) (plus X x) := by
  refine ⟨h.inv.add d hx, fun y => ?_⟩
  rw [Sp.plus_iff]
  unfold Go.Proofs.YtamdmkjejpkbiaaGreatDoor.add
  by_cases hs : Go.Proofs.YtamdmkjejpkbiaaGreatDoor.says M x d = true
  · rw [if_pos hs, rd_addR h.inv hx (by rw [says_rd] at hs; simpa using hs), h.iff, h.iff]
  · rw [if_neg hs, h.iff]
    rw [h.says] at hs
    constructor
    · exact .inl
    · rintro (h1 | h1)
      · exact h1
      · have h2 : Sp X x := Classical.not_not.1 hs
        have := h1.xor h2
        rwa [xor_cancel] at this
theorem Spans.congr {n : Nat} {M : Mat} {X Y : Nat → Prop} (h : Spans n M X) (hXY : ∀ x, X x ↔ Y x) : Spans n M Y :=
  ⟨h.inv, fun y => (h.iff y).trans ⟨fun s => s.mono fun x hx => .one ((hXY x).1 hx), fun s => s.mono fun x hx => .one ((hXY x).2 hx)⟩⟩

/-- Where there is a row. -/
theorem Spans.place {n : Nat} {M : Mat} {X : Nat → Prop} (h : Spans n M X) (i : Nat) : (pv M i).isSome = true ↔ ∃ y, Sp X y ∧ y ≠ 0 ∧ low y = i := by
  constructor
  · intro hs
    cases hp : pv M i with
    | none => rw [hp] at hs; simp at hs
    | some r =>
      have h1 := h.inv.one hp
      refine ⟨r.1, (h.iff _).1 (rd_own h.inv hp), ?_, low_uniq h1 fun j hj => h.inv.lo hp hj⟩
      intro e; rw [e] at h1; simp at h1
  · rintro ⟨y, hy, h0, rfl⟩
    cases hp : pv M (low y) with
    | some r => rfl
    | none =>
      exfalso
      obtain ⟨l1, l2⟩ := low_spec y h0
      have h1 := (redAt_low h.inv (y := (y, [])) hp l1 l2 M.length).1
      have h2 := (h.iff y).2 hy
      have h3 : (redAt M (y, []) M.length).1 = 0 := h2
      rw [h3] at h1
      simp at h1

theorem rank_congr : ∀ {M M' : Mat}, M.length = M'.length → (∀ i, (pv M i).isSome = (pv M' i).isSome) → rank M = rank M'
  | [], [], _, _ => rfl
  | [], _ :: _, h, _ => by simp at h
  | _ :: _, [], h, _ => by simp at h
  | a :: M, b :: M', h, hp => by
    have ih := rank_congr (M := M) (M' := M') (by simpa using h) fun i => by have := hp (i + 1); simpa [pv] using this
    have h0 := hp 0
    simp [pv] at h0
    unfold rank at ih ⊢
    simp only [List.filter_cons, h0]
    split <;> simp [ih]
/-- Two matrices that were offered the same. -/
theorem Spans.rank_eq {n : Nat} {M M' : Mat} {X : Nat → Prop} (h : Spans n M X) (h' : Spans n M' X) : rank M = rank M' :=
  rank_congr (by rw [h.inv.len, h'.inv.len]) fun i => by rw [Bool.eq_iff_iff, h.place, h'.place]
theorem Spans.says_eq {n : Nat} {M M' : Mat} {X : Nat → Prop} (h : Spans n M X) (h' : Spans n M' X) (x : Nat) (d d' : List UInt8) : Go.Proofs.YtamdmkjejpkbiaaGreatDoor.says M x d = Go.Proofs.YtamdmkjejpkbiaaGreatDoor.says M' x d' := by rw [Bool.eq_iff_iff, h.says, h'.says]

theorem Inv.rank_add {n : Nat} {M : Mat} (h : Inv n M) {x : Nat} {d : List UInt8} (hx : x < 2 ^ n) : rank (Go.Proofs.YtamdmkjejpkbiaaGreatDoor.add M x d) = rank M + (if says M x d then 1 else 0) := by
  unfold Go.Proofs.YtamdmkjejpkbiaaGreatDoor.add
  by_cases hs : says M x d = true
  · rw [if_pos hs, if_pos hs, rank_addR (h.hfree hx hs)]
  · rw [if_neg hs, if_neg hs]; rfl
theorem Inv.rank_le {n : Nat} {M : Mat} (h : Inv n M) : rank M ≤ n := by rw [← h.len]; exact Go.Proofs.YtamdmkjejpkbiaaGreatDoor.rank_le M
theorem low_pow (i : Nat) : low (2 ^ i) = i := low_uniq (by simp) fun j hj => by rw [Nat.testBit_two_pow]; simp; omega
theorem rank_all : ∀ {M : Mat}, (∀ i, i < M.length → (pv M i).isSome = true) → rank M = M.length
  | [], _ => rfl
  | a :: M, h => by
    have ih := rank_all (M := M) fun i hi => by have := h (i + 1) (by simpa using hi); simpa [pv] using this
    have h0 := h 0 (by simp)
    simp [pv] at h0
    unfold rank at ih ⊢
    simp [h0, ih]
/-- All rows of one bit are sums: the matrix is full. -/
theorem Spans.full {n : Nat} {M : Mat} {X : Nat → Prop} (h : Spans n M X) (hX : ∀ i, i < n → Sp X (2 ^ i)) : rank M = n := by
  rw [← h.inv.len]
  refine rank_all fun i hi => (h.place i).2 ⟨2 ^ i, hX i (by rw [← h.inv.len]; exact hi), Nat.ne_of_gt (Nat.two_pow_pos i), low_pow i⟩
/-- A full matrix: its rows have one bit each; no row says something new. -/
theorem Inv.full {n : Nat} {M : Mat} (h : Inv n M) (hr : rank M = n) : ∃ rs : List Row, M = rs.map some ∧ rs.length = n ∧ ∀ i (hi : i < rs.length), rs[i].1 = 2 ^ i := by
  obtain ⟨rs, rfl⟩ := rank_full (M := M) (by rw [hr, h.len])
  have hl : rs.length = n := by have := h.len; simpa using this
  have hp : ∀ i (hi : i < rs.length), pv (rs.map some) i = some rs[i] := fun i hi => by simp [pv, hi]
  refine ⟨rs, rfl, hl, fun i hi => ?_⟩
  apply Nat.eq_of_testBit_eq
  intro j
  rw [Nat.testBit_two_pow]
  by_cases e : i = j
  · subst e; rw [h.one (hp i hi)]; simp
  · rcases Nat.lt_or_ge j n with hj | hj
    · rw [h.red (hp i hi) (hp j (by omega)) e]; simp [e]
    · rw [Nat.testBit_lt_two_pow (Nat.lt_of_lt_of_le (h.lt (hp i hi)) (Nat.pow_le_pow_right (by omega) hj))]; simp [e]
theorem Inv.full_says {n : Nat} {M : Mat} (h : Inv n M) (hr : rank M = n) {x : Nat} (d : List UInt8) (hx : x < 2 ^ n) : says M x d = false := by
  cases hs : says M x d with
  | false => rfl
  | true =>
    have h1 := h.rank_add (d := d) hx
    rw [hs, hr] at h1
    have := (h.add d hx).rank_le
    simp at h1
    omega
end Go.Proofs.YtamdmkjejpkbiaaGreatDoor
