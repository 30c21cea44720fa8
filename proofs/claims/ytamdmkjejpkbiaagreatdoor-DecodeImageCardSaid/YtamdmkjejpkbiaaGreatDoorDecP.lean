/- A decoder, in plain Lean: its first rows, what they say, the image that is worked out. No program. -/
import Derived.Test.YtamdmkjejpkbiaaGreatDoorGauss
namespace Go.Proofs.YtamdmkjejpkbiaaGreatDoor

/-- The matrix with the first k rows of parity. -/
def parMat (p : Par) : Nat → Mat
  | 0 => mat0 p.n
  | k + 1 => add (parMat p k) (parRow p k) (zeroL p.sz)
/-- The first k rows of parity. -/
def parX (p : Par) (k : Nat) : Nat → Prop := fun x => ∃ j, j < k ∧ x = parRow p j
theorem parX_succ (p : Par) (k x : Nat) : plus (parX p k) (parRow p k) x ↔ parX p (k + 1) x := by
  constructor
  · rintro (⟨j, hj, rfl⟩ | rfl)
    · exact ⟨j, by omega, rfl⟩
    · exact ⟨k, by omega, rfl⟩
  · rintro ⟨j, hj, rfl⟩
    by_cases e : j = k
    · subst e; exact .inr rfl
    · exact .inl ⟨j, by omega, rfl⟩
theorem parMat_spans (p : Par) {k : Nat} (hk : k ≤ p.P) : Spans p.n (parMat p k) (parX p k) := by
  induction k with
  | zero => exact (Spans.mat0 p.n).congr fun x => ⟨fun h => h.elim, fun ⟨j, hj, _⟩ => by omega⟩
  | succ k ih => exact ((ih (by omega)).add (zeroL p.sz) (parRow_lt (by omega))).congr (parX_succ p k)
/-- A sum of rows of parity has the bits of no other one. -/
theorem Sp.clear {X : Nat → Prop} {i y : Nat} (h : Sp X y) (hX : ∀ x, X x → x.testBit i = false) : y.testBit i = false := by
  induction h with
  | zero => simp
  | step _ hx ih => rw [Nat.testBit_xor, ih, hX _ hx]; rfl
theorem parMat_says (p : Par) {k : Nat} (hk : k < p.P) (d : List UInt8) : says (parMat p k) (parRow p k) d = true := by
  rw [(parMat_spans p (by omega)).says]
  intro h
  have h1 := h.clear (i := p.K + k) fun x hx => by
    obtain ⟨j, hj, rfl⟩ := hx
    rw [parRow_bit (by omega)]
    simp; omega
  rw [parRow_bit (by omega)] at h1
  simp at h1
theorem parMat_rank (p : Par) {k : Nat} (hk : k ≤ p.P) : rank (parMat p k) = k := by
  induction k with
  | zero => exact rank_mat0 _
  | succ k ih => rw [parMat, (parMat_spans p (by omega)).inv.rank_add (parRow_lt (by omega)), ih (by omega), parMat_says p (by omega)]; rfl

/-- The rows that a decoder was offered: those of parity, those of the symbols. -/
def decX (p : Par) (ids : Nat → Prop) : Nat → Prop := fun x => parX p p.P x ∨ ∃ id, ids id ∧ x = rowN p id
/-- All of the first K symbols, or enough others: all rows of one bit are sums. -/
theorem decX_full (p : Par) {ids : Nat → Prop} (h : ∀ i, i < p.K → ids i) {i : Nat} (hi : i < p.n) : Sp (decX p ids) (2 ^ i) := by
  have hK : ∀ i, i < p.K → Sp (decX p ids) (2 ^ i) := fun i hi => .one (.inr ⟨i, h i hi, by unfold rowN; rw [if_pos hi]⟩)
  by_cases hik : i < p.K
  · exact hK i hik
  · -- what of the row of parity is not its own bit is a sum of the first K
    have hlow : ∀ s k, k ≤ p.K → Sp (decX p ids) (parAcc s (2 ^ i) k ^^^ 2 ^ i) := fun s k => by
      induction k with
      | zero => intro _; simp only [parAcc, Nat.xor_self]; exact .zero
      | succ k ih =>
        intro hk
        have hc : (parAcc s (2 ^ i) k).testBit k = false := by rw [parAcc_bit _ _ _ _ (Nat.le_refl k), Nat.testBit_two_pow]; simp; omega
        unfold parAcc
        split
        · have e : parAcc s (2 ^ i) k ||| 2 ^ k = parAcc s (2 ^ i) k ^^^ 2 ^ k := by
            apply Nat.eq_of_testBit_eq
            intro j
            rw [Nat.testBit_or, Nat.testBit_xor, Nat.testBit_two_pow]
            by_cases e : k = j
            · subst e; simp [hc]
            · simp [e]
          rw [e, xor_left]
          exact (ih (by omega)).xor (hK k (by omega))
        · exact ih (by omega)
    have h1 := hlow (seed p.ses (2147483648 + (i - p.K))) p.K (Nat.le_refl _)
    have h2 : Sp (decX p ids) (parRow p (i - p.K)) := .one (.inl ⟨i - p.K, by unfold Par.n at hi; omega, rfl⟩)
    have e : parRow p (i - p.K) = parAcc (seed p.ses (2147483648 + (i - p.K))) (2 ^ i) p.K := by
      unfold parRow
      rw [show p.K + (i - p.K) = i by omega]
    rw [← e] at h1
    have h3 := h1.xor h2
    rw [xor_left, Nat.xor_self, Nat.zero_xor] at h3
    exact h3

/-- A linear test that a unit row alone of the first K passes. -/
def fpar (p : Par) (i y : Nat) : Nat → Bool
  | 0 => y.testBit i
  | m + 1 => fpar p i y m ^^ ((parRow p m).testBit i && y.testBit (p.K + m))
theorem fpar_lin (p : Par) (i a b m : Nat) : fpar p i (a ^^^ b) m = (fpar p i a m ^^ fpar p i b m) := by
  induction m with
  | zero => simp only [fpar, Nat.testBit_xor]
  | succ m ih =>
    simp only [fpar, ih, Nat.testBit_xor]
    cases fpar p i a m <;> cases fpar p i b m <;> cases (parRow p m).testBit i <;> cases a.testBit (p.K + m) <;> cases b.testBit (p.K + m) <;> rfl
theorem fpar_unit (p : Par) (i j m : Nat) (hj : j < p.K) : fpar p i (2 ^ j) m = decide (j = i) := by
  induction m with
  | zero => simp [fpar, Nat.testBit_two_pow]
  | succ m ih =>
    rw [fpar, ih, Nat.testBit_two_pow, show decide (j = p.K + m) = false by simp; omega]
    simp
theorem fpar_par (p : Par) (i j m : Nat) : fpar p i (parRow p j) m = ((parRow p j).testBit i && decide (m ≤ j)) := by
  induction m with
  | zero => simp [fpar]
  | succ m ih =>
    rw [fpar, ih, parRow_bit (p := p) (j := j) (i := p.K + m) (by omega)]
    by_cases e : m = j
    · subst e
      have : decide (m + 1 ≤ m) = false := by simp
      simp
    · have h1 : decide (p.K + m = p.K + j) = false := by simp; omega
      rw [h1, Bool.and_false, Bool.xor_false]
      congr 1
      simp
      omega
/-- Each of the first K symbols says something new beside the rows of parity and the others. -/
theorem unit_new (p : Par) {i : Nat} (hi : i < p.K) : ¬ Sp (decX p fun id => id < p.K ∧ id ≠ i) (2 ^ i) := by
  intro h
  have h0 : ∀ y, Sp (decX p fun id => id < p.K ∧ id ≠ i) y → fpar p i y p.P = false := fun y hy => by
    induction hy with
    | zero =>
      have := fpar_lin p i 0 0 p.P
      rw [Nat.xor_self] at this
      rw [this, Bool.xor_self]
    | step _ hx ih =>
      rw [fpar_lin, ih]
      rcases hx with ⟨j, hj, rfl⟩ | ⟨id, ⟨h1, h2⟩, rfl⟩
      · rw [fpar_par, show decide (p.P ≤ j) = false by simp; omega]; simp
      · unfold rowN
        rw [if_pos h1, fpar_unit _ _ _ _ h1]
        simp [h2]
  have h1 := h0 _ h
  rw [fpar_unit _ _ _ _ hi] at h1
  simp at h1

-- data
theorem xorL_comm (a b : List UInt8) : xorL a b = xorL b a := by
  unfold xorL
  rw [List.zipWith_comm]
  congr 1
  funext x y
  exact UInt8.xor_comm _ _
theorem xorL_assoc (a b c : List UInt8) : xorL (xorL a b) c = xorL a (xorL b c) := by
  unfold xorL
  induction a generalizing b c with
  | nil => simp
  | cons x a ih =>
    cases b with
    | nil => simp
    | cons y b =>
      cases c with
      | nil => simp
      | cons z c => simp [ih, UInt8.xor_assoc]
theorem xorL_self (a : List UInt8) : xorL a a = zeroL a.length := by
  unfold xorL zeroL
  induction a with
  | nil => rfl
  | cons x a ih => rw [List.zipWith_cons_cons, ih, UInt8.xor_self]; rfl
theorem xorL_zero {a : List UInt8} {sz : Nat} (h : a.length = sz) : xorL a (zeroL sz) = a := by
  subst h
  unfold xorL zeroL
  induction a with
  | nil => rfl
  | cons x a ih => simp [ih, List.replicate_succ]
theorem zero_xorL {a : List UInt8} {sz : Nat} (h : a.length = sz) : xorL (zeroL sz) a = a := by rw [xorL_comm, xorL_zero h]

theorem sumTo_xor {sz : Nat} {ps : List (List UInt8)} (hps : ∀ b, b ∈ ps → b.length = sz) (a b : Nat) {k : Nat} (hk : k ≤ ps.length) : sumTo sz (a ^^^ b) ps k = xorL (sumTo sz a ps k) (sumTo sz b ps k) := by
  induction k with
  | zero => simp only [sumTo]; rw [xorL_zero]; simp [zeroL]
  | succ k ih =>
    have ih := ih (by omega)
    have la := sumTo_length (x := a) hps (k := k) (by omega)
    have lb := sumTo_length (x := b) hps (k := k) (by omega)
    have lp : (ps[k]?.getD []).length = sz := by rw [List.getElem?_eq_getElem (by omega)]; exact hps _ (List.getElem_mem _)
    simp only [sumTo, Nat.testBit_xor, ih]
    generalize sumTo sz a ps k = A at la
    generalize sumTo sz b ps k = B at lb
    generalize ps[k]?.getD [] = c at lp
    cases a.testBit k <;> cases b.testBit k <;> simp only [Bool.xor_false, Bool.xor_true, Bool.not_true, Bool.not_false, Bool.false_eq_true, if_true, if_false]
    · rw [xorL_assoc]
    · rw [xorL_assoc, xorL_assoc, xorL_comm B c]
    · rw [xorL_comm B c, ← xorL_assoc, xorL_assoc A c c, xorL_self, lp, xorL_zero la]
theorem sumSel_xor {sz : Nat} {ps : List (List UInt8)} (hps : ∀ b, b ∈ ps → b.length = sz) (a b : Nat) : sumSel sz (a ^^^ b) ps = xorL (sumSel sz a ps) (sumSel sz b ps) := sumTo_xor hps a b (Nat.le_refl _)
theorem sumTo_unit {sz : Nat} {ps : List (List UInt8)} (hps : ∀ b, b ∈ ps → b.length = sz) (i : Nat) {k : Nat} (hk : k ≤ ps.length) : sumTo sz (2 ^ i) ps k = if i < k then ps[i]?.getD [] else zeroL sz := by
  induction k with
  | zero => simp [sumTo]
  | succ k ih =>
    have ih := ih (by omega)
    rw [sumTo, Nat.testBit_two_pow, ih]
    by_cases e : i = k
    · subst e
      have lp : (ps[i]?.getD []).length = sz := by rw [List.getElem?_eq_getElem (by omega)]; exact hps _ (List.getElem_mem _)
      rw [if_neg (Nat.lt_irrefl i), zero_xorL lp]
      simp
    · have e2 : decide (i = k) = false := by simpa using e
      rw [e2]
      simp only [Bool.false_eq_true, if_false]
      by_cases h : i < k
      · rw [if_pos h, if_pos (by omega)]
      · rw [if_neg h, if_neg (by omega)]
theorem sumSel_unit {sz : Nat} {ps : List (List UInt8)} (hps : ∀ b, b ∈ ps → b.length = sz) {i : Nat} (hi : i < ps.length) : sumSel sz (2 ^ i) ps = ps[i] := by
  unfold sumSel
  rw [sumTo_unit hps i (Nat.le_refl _), if_pos hi, List.getElem?_eq_getElem hi]; rfl

/-- The data of each row are the sum of the pieces that it has. -/
def DataOk (sz : Nat) (ps : List (List UInt8)) (M : Mat) : Prop := ∀ i r, pv M i = some r → r.2 = sumSel sz r.1 ps
theorem DataOk.mat0 (sz : Nat) (ps : List (List UInt8)) (n : Nat) : DataOk sz ps (mat0 n) := fun i r h => by
  rw [pv_get] at h
  simp only [Go.Proofs.YtamdmkjejpkbiaaGreatDoor.mat0, List.getElem?_replicate] at h
  split at h <;> simp at h
theorem DataOk.redAt {sz : Nat} {ps : List (List UInt8)} {M : Mat} (hps : ∀ b, b ∈ ps → b.length = sz) (h : DataOk sz ps M) {y : Row} (hy : y.2 = sumSel sz y.1 ps) (k : Nat) : (redAt M y k).2 = sumSel sz (redAt M y k).1 ps := by
  induction k with
  | zero => exact hy
  | succ k ih =>
    rw [redAt_succ]
    cases hp : pv M k with
    | none => exact ih
    | some r =>
      rw [redStep_some]
      split
      · simp only [xorR]; rw [sumSel_xor hps, ih, h k r hp]
      · exact ih
theorem DataOk.add {sz n : Nat} {ps : List (List UInt8)} {M : Mat} (hps : ∀ b, b ∈ ps → b.length = sz) (h : DataOk sz ps M) (hI : Inv n M) {x : Nat} (hx : x < 2 ^ n) : DataOk sz ps (add M x (sumSel sz x ps)) := by
  unfold Go.Proofs.YtamdmkjejpkbiaaGreatDoor.add
  split
  · rename_i hs
    have hr : (reduce M (x, sumSel sz x ps)).2 = sumSel sz (reduce M (x, sumSel sz x ps)).1 ps := h.redAt hps rfl _
    have h0 : (reduce M (x, sumSel sz x ps)).1 ≠ 0 := by unfold says at hs; simpa using hs
    obtain ⟨_, _, hl⟩ := hI.free (y := (x, sumSel sz x ps)) hx h0
    intro i r hi
    rw [pv_addR _ _ (by rw [hI.len]; exact hl)] at hi
    split at hi
    · simp at hi; subst hi; exact hr
    · cases ht : pv M i with
      | none => rw [ht] at hi; simp at hi
      | some t =>
        rw [ht] at hi
        simp at hi
        subst hi
        unfold upd
        split
        · simp only [xorR]; rw [sumSel_xor hps, h i t ht, hr]
        · exact h i t ht
  · exact h

/-- The row of parity sums to nothing, over all pieces. -/
theorem par_zero {p : Par} {l : List (List UInt8)} (hl : l.length = p.K) (h : ∀ b, b ∈ l → b.length = p.sz) {j : Nat} (hj : j < p.P) : sumSel p.sz (parRow p j) (piecesL p l) = zeroL p.sz := by
  have hlen := piecesL_length (p := p) hl
  have hmem := fun b => mem_piecesL (p := p) h (b := b)
  have hget : ∀ i, i < p.K → (piecesL p l)[i]? = l[i]? := fun i hi => by unfold piecesL; rw [List.getElem?_append_left (by omega)]
  have h1 : ∀ k, k ≤ p.K → sumTo p.sz (parRow p j) (piecesL p l) k = sumTo p.sz (parRow p j) l k := fun k hk => by
    induction k with
    | zero => rfl
    | succ k ih => rw [sumTo, sumTo, ih (by omega), hget k (by omega)]
  have h2 : ∀ m, m ≤ p.P → sumTo p.sz (parRow p j) (piecesL p l) (p.K + m) = if j < m then zeroL p.sz else sumSel p.sz (parRow p j) l := fun m hm => by
    induction m with
    | zero => rw [Nat.add_zero, h1 _ (Nat.le_refl _), if_neg (by omega)]; unfold sumSel; rw [hl]
    | succ m ih =>
      rw [← Nat.add_assoc, sumTo, ih (by omega), parRow_bit (by omega)]
      by_cases e : m = j
      · subst e
        have hg : (piecesL p l)[p.K + m]?.getD [] = sumSel p.sz (parRow p m) l := by
          unfold piecesL
          rw [List.getElem?_append_right (by omega), hl]
          simp [hj]
        rw [if_neg (Nat.lt_irrefl m), if_pos (Nat.lt_succ_self m), hg, xorL_self, sumSel_length h]
        simp
      · rw [show decide (p.K + m = p.K + j) = false by simp; omega]
        simp only [Bool.false_eq_true, if_false]
        by_cases h3 : j < m
        · rw [if_pos h3, if_pos (by omega)]
        · rw [if_neg h3, if_neg (by omega)]
  have h3 := h2 p.P (Nat.le_refl _)
  rw [if_pos hj] at h3
  unfold sumSel
  rw [hlen]
  exact h3
theorem parMat_data {p : Par} {l : List (List UInt8)} (hl : l.length = p.K) (h : ∀ b, b ∈ l → b.length = p.sz) {k : Nat} (hk : k ≤ p.P) : DataOk p.sz (piecesL p l) (parMat p k) := by
  induction k with
  | zero => exact DataOk.mat0 _ _ _
  | succ k ih =>
    have := (ih (by omega)).add (fun b hb => mem_piecesL h hb) (parMat_spans p (by omega)).inv (x := parRow p k) (parRow_lt (by omega))
    rw [par_zero hl h (by omega)] at this
    exact this

/-- A full matrix of right data: its data are the pieces. -/
theorem solved {n sz : Nat} {ps : List (List UInt8)} {M : Mat} (hps : ∀ b, b ∈ ps → b.length = sz) (hn : ps.length = n) (hI : Inv n M) (hd : DataOk sz ps M) (hr : rank M = n) : ∃ rs : List Row, M = rs.map some ∧ rs.map Prod.snd = ps := by
  obtain ⟨rs, rfl, hl, h1⟩ := hI.full hr
  refine ⟨rs, rfl, ?_⟩
  apply List.ext_getElem
  · simp [hl, hn]
  · intro i a b
    rw [List.getElem_map]
    have hi : i < rs.length := by simpa using a
    rw [hd i rs[i] (by simp [pv, hi]), h1 i hi, sumSel_unit hps b]
end Go.Proofs.YtamdmkjejpkbiaaGreatDoor
