/- Memory: a block known whole; a frame (what stays as it was but for the blocks of a footprint). No function of the program. -/
import Derived.WalkKit
import Derived.Deep.Draws
import Derived.Laws.AppendOwnNone
import Derived.Deep.AppendLies
import Derived.Laws.CopyOwn
namespace Go.Proofs.YtamdmkjejpkbiaaGreatDoor
open Go Go.RowKit

/-- Block b is a row of cells c of element type T, nothing frozen. -/
def Blk (w : World) (b : Nat) (c : Array Value) (T : TypeId) : Prop := w.heap[b]? = some (.cells c T (0, 0))

section
variable {w w' w1 : World} {b b' : Nat} {c c' : Array Value} {T T' : TypeId} {F G : Nat → Prop}

theorem Blk.cell (h : Blk w b c T) (i : Nat) {v : Value} (hv : c[i]? = some v) : w.cell? ⟨b, i, none⟩ = some v := by
  unfold Blk at h
  simp [World.cell?, h, hv]
theorem Blk.cellEq (h : Blk w b c T) (i : Nat) : w.cell? ⟨b, i, none⟩ = c[i]? := by
  unfold Blk at h
  simp [World.cell?, h]
theorem Blk.frozen (h : Blk w b c T) (i : Nat) : w.frozen? ⟨b, i, none⟩ = false := by
  unfold Blk at h
  simp [World.frozen?, h]
theorem Blk.lt (h : Blk w b c T) : b < w.heap.size := by
  unfold Blk at h
  rcases Nat.lt_or_ge b w.heap.size with h1 | h1
  · exact h1
  · simp [Array.getElem?_eq_none h1] at h
theorem Blk.ne (h : Blk w b c T) (h' : Blk w b' c' T') (hT : T ≠ T') : b ≠ b' := by
  rintro rfl
  unfold Blk at h h'
  rw [h] at h'
  simp at h'
  exact hT h'.2
theorem Blk.ne_new (h : Blk w b c T) : b ≠ w.heap.size := Nat.ne_of_lt h.lt
theorem Blk.alloc (h : Blk w b c T) (o : Obj) : Blk (w.alloc o) b c T := by
  have := h.lt
  unfold Blk at h ⊢
  rw [← h]
  exact Below.heap_alloc w o b this
theorem Blk.new (w : World) (c : Array Value) (T : TypeId) : Blk (w.alloc (.cells c T)) w.heap.size c T := by
  unfold Blk World.alloc
  simp
theorem Blk.newAt {w : World} {b : Nat} (e : b = w.heap.size) (c : Array Value) (T : TypeId) : Blk (w.alloc (.cells c T)) b c T := by subst e; exact Blk.new w c T
theorem Blk.drew (h : Blk w b c T) : Blk w.drew b c T := h
theorem Blk.drewN (h : Blk w b c T) (n : Nat) : Blk (w.drewN n) b c T := h
theorem Blk.setCell_ne (h : Blk w b c T) {a : Addr} (ha : a.block ≠ b) (v : Value) : Blk (w.setCell a v) b c T := by
  unfold Blk at h ⊢
  rw [← h]
  exact Below.heap_setCell w a v b (fun e => ha e.symm)
theorem Blk.setCell (h : Blk w b c T) (i : Nat) (v : Value) : Blk (w.setCell ⟨b, i, none⟩ v) b (c.setIfInBounds i v) T := by
  unfold Blk at h ⊢
  simp [World.setCell, Array.getElem?_modify, h]
theorem Blk.eq (h : Blk w b c T) (e : w'.heap[b]? = w.heap[b]?) : Blk w' b c T := by unfold Blk at h ⊢; rw [e, h]
theorem Blk.size_of (_ : Blk w b c T) {i : Nat} {v : Value} (hv : c[i]? = some v) : i < c.size := by
  rcases Nat.lt_or_ge i c.size with h | h
  · exact h
  · rw [Array.getElem?_eq_none h] at hv; simp at hv
theorem Blk.uniq (h : Blk w b c T) (h' : Blk w b c' T') : c = c' := by
  unfold Blk at h h'
  rw [h] at h'
  simp at h'
  exact h'.1

/-- From w to w' nothing has turned but the blocks of F (and what is new). -/
structure Fr (F : Nat → Prop) (w w' : World) : Prop where
  os : w'.os = w.os
  tape : w'.tape = w.tape
  output : w'.output = w.output
  size : w.heap.size ≤ w'.heap.size
  block : ∀ k, k < w.heap.size → ¬ F k → w'.heap[k]? = w.heap[k]?

/-- No block at all. -/
def NoF : Nat → Prop := fun _ => False

theorem Fr.refl (F : Nat → Prop) (w : World) : Fr F w w := ⟨rfl, rfl, rfl, Nat.le_refl _, fun _ _ _ => rfl⟩
theorem Fr.trans (h : Fr F w w1) (k : Fr G w1 w') (hG : ∀ i, i < w.heap.size → G i → F i) : Fr F w w' :=
  ⟨k.os.trans h.os, k.tape.trans h.tape, k.output.trans h.output, Nat.le_trans h.size k.size,
   fun i hi hF => (k.block i (Nat.lt_of_lt_of_le hi h.size) (fun g => hF (hG i hi g))).trans (h.block i hi hF)⟩
theorem Fr.trans' (h : Fr F w w1) (k : Fr F w1 w') : Fr F w w' := h.trans k fun _ _ g => g
theorem Fr.transN (h : Fr F w w1) (k : Fr NoF w1 w') : Fr F w w' := h.trans k fun _ _ g => g.elim
theorem Fr.mono (h : Fr F w w') (hG : ∀ i, i < w.heap.size → F i → G i) : Fr G w w' :=
  ⟨h.os, h.tape, h.output, h.size, fun i hi g => h.block i hi fun f => g (hG i hi f)⟩
theorem Fr.no (h : Fr NoF w w') : Fr F w w' := h.mono fun _ _ g => g.elim
theorem Fr.drew (h : Fr F w w') : Fr F w w'.drew := ⟨h.os, h.tape, h.output, h.size, h.block⟩
theorem Fr.drewN (h : Fr F w w') (n : Nat) : Fr F w (w'.drewN n) := ⟨h.os, h.tape, h.output, h.size, h.block⟩
theorem Fr.alloc (h : Fr F w w') (o : Obj) : Fr F w (w'.alloc o) :=
  h.trans (G := NoF) ⟨rfl, rfl, rfl, by simp, fun k hk _ => Below.heap_alloc _ _ _ hk⟩ fun _ _ g => g.elim
theorem Fr.setCell (h : Fr F w w') {p : Addr} (hp : p.block < w.heap.size → F p.block) (u : Value) : Fr F w (w'.setCell p u) :=
  h.trans (G := fun k => k = p.block) ⟨rfl, rfl, rfl, by simp [World.setCell], fun k _ hk => Below.heap_setCell _ _ _ _ hk⟩ fun i hi g => by subst g; exact hp hi
theorem Fr.grown {row : Option Nat} (h : Fr F w w') (hg : w'.grownBy w1 row) (hr : ∀ k, k < w.heap.size → row = some k → F k) : Fr F w w1 :=
  h.trans (G := fun k => row = some k) ⟨hg.os, hg.tape, hg.output, hg.size, fun k hk hn => hg.block k hk (fun e => hn e.symm)⟩ fun i hi g => hr i hi g
theorem Fr.grown0 (h : Fr F w w') (hg : w'.grownBy w1 none) : Fr F w w1 := h.grown hg fun _ _ e => by simp at e
theorem Fr.below {B : Nat} (h : Fr F w w') (hF : ∀ k, k < B → k < w.heap.size → ¬ F k) (hB : B ≤ w.heap.size) : Below B w w' :=
  ⟨h.os, h.tape, h.output, h.size, fun k hk => h.block k (by omega) (hF k hk (by omega))⟩
theorem Fr.belowN (h : Fr NoF w w') : Below w.heap.size w w' := h.below (fun _ _ _ g => g) (Nat.le_refl _)
theorem Blk.fr (h : Blk w b c T) (hf : Fr F w w') (hn : ¬ F b) : Blk w' b c T := h.eq (hf.block b h.lt hn)
theorem Blk.frN (h : Blk w b c T) (hf : Fr NoF w w') : Blk w' b c T := h.fr hf fun g => g

/-- A footprint, and what has been made since. -/
def upF (F : Nat → Prop) (w w' : World) : Nat → Prop := fun k => F k ∨ (w.heap.size ≤ k ∧ k < w'.heap.size)
/-- How many blocks the package's variables take. -/
def gl : Nat := 1
/-- All blocks of the footprint lie, behind the variables'. -/
def InF (F : Nat → Prop) (w : World) : Prop := ∀ k, F k → gl ≤ k ∧ k < w.heap.size
/-- Two footprints share nothing. -/
def Apart (F G : Nat → Prop) : Prop := ∀ k, F k → ¬ G k
theorem InF.up (h : InF F w) (hg : gl ≤ w.heap.size) (hs : w.heap.size ≤ w'.heap.size) : InF (upF F w w') w' := fun k hk => hk.elim (fun f => ⟨(h k f).1, Nat.lt_of_lt_of_le (h k f).2 hs⟩) (fun f => ⟨Nat.le_trans hg f.1, f.2⟩)
theorem InF.le (h : InF F w) (hs : w.heap.size ≤ w'.heap.size) : InF F w' := fun k f => ⟨(h k f).1, Nat.lt_of_lt_of_le (h k f).2 hs⟩
theorem InF.no (w : World) : InF NoF w := fun _ f => f.elim
theorem upF.old {k : Nat} (h : F k) : upF F w w' k := Or.inl h
theorem upF.trans {k : Nat} (h : upF (upF F w w1) w1 w' k) (h1 : w.heap.size ≤ w1.heap.size) (h2 : w1.heap.size ≤ w'.heap.size) : upF F w w' k := by
  rcases h with (h | h) | h
  · exact .inl h
  · exact .inr ⟨h.1, by omega⟩
  · exact .inr ⟨by omega, h.2⟩
theorem Apart.symm (h : Apart F G) : Apart G F := fun k g f => h k f g
theorem Apart.upL (h : Apart F G) (hG : InF G w) : Apart (upF F w w') G := fun k f g => by
  have := hG k g
  rcases f with f | f
  · exact h k f g
  · omega
theorem Apart.upR (h : Apart F G) (hF : InF F w) : Apart F (upF G w w') := (h.symm.upL hF).symm
end

/-- 'make([]E, n)', E of one cell: the equation of the operation. -/
theorem madeCells_one (z : Value) (n : Nat) : madeCells #[z] n = Array.replicate n z := by
  unfold madeCells
  apply Array.ext
  · simp
  · intro i h1 h2
    simp only [Array.size_map, Array.size_range] at h1
    simp [Nat.mod_one]
theorem run_make_flat {P : Program} (t e : TypeId) (i : TypeInfo) (z : Value) (ht : P.underlying t = some (.slice e)) (hi : P.info? e = some i) (hz : i.zero = some z) (hc : z.cells = #[z]) (hs : i.size = 1)
    (l : Int) (h0 : 0 ≤ l) (hb : (i.bytes : Int) * l ≤ 281474976710656) (h63 : l ≤ 9223372036854775807) (w : World) :
    (Instr.makeSlice t (.int .i64 l) (.int .i64 l)).run P w = .ok (.slice (some ⟨w.heap.size, 0, none⟩) l.toNat l.toNat) (w.alloc (.cells (Array.replicate l.toNat z) e)) := by
  have h := run_make (P := P) w t e i z ht hi hz .i64 .i64 l l h0 (Int.le_refl _) hb h63
  rw [hs, hc, Nat.mul_one, madeCells_one] at h
  exact h

/-- A slice that reads as a list of cells (elements of one cell), its row among the blocks of F. -/
def SlAt (F : Nat → Prop) (w : World) (v : Value) (xs : List Value) : Prop :=
  ∃ p cap, v = .slice p xs.length cap ∧ ((p = none → cap = 0) ∧ xs.length ≤ cap) ∧ (xs ≠ [] → ∃ b o, p = some ⟨b, o, none⟩ ∧ F b ∧ b < w.heap.size ∧ ∀ j (hj : j < xs.length), w.cell? ⟨b, o + j, none⟩ = some xs[j])

theorem SlAt.fr {F G : Nat → Prop} {w w' : World} {v : Value} {xs : List Value} (h : SlAt F w v xs) (hf : Fr G w w') (ha : ∀ k, F k → ¬ G k) : SlAt F w' v xs := by
  obtain ⟨p, cap, rfl, h0, h⟩ := h
  refine ⟨p, cap, rfl, h0, fun hne => ?_⟩
  obtain ⟨b, o, rfl, hF, hb, hc⟩ := h hne
  exact ⟨b, o, rfl, hF, Nat.lt_of_lt_of_le hb hf.size, fun j hj => (World.cell?_of_block (w := w) (hf.block b hb (ha b hF))).trans (hc j hj)⟩
theorem SlAt.frN {F : Nat → Prop} {w w' : World} {v : Value} {xs : List Value} (h : SlAt F w v xs) (hf : Fr NoF w w') : SlAt F w' v xs := h.fr hf fun _ _ g => g
theorem SlAt.mono {F G : Nat → Prop} {w : World} {v : Value} {xs : List Value} (h : SlAt F w v xs) (hF : ∀ k, F k → G k) : SlAt G w v xs := by
  obtain ⟨p, cap, rfl, h0, h⟩ := h
  refine ⟨p, cap, rfl, h0, fun hne => ?_⟩
  obtain ⟨b, o, rfl, hb⟩ := h hne
  exact ⟨b, o, rfl, hF b hb.1, hb.2⟩
theorem SlAt.nil (F : Nat → Prop) (w : World) : SlAt F w (.slice none 0 0) [] := ⟨none, 0, rfl, ⟨fun _ => rfl, Nat.le_refl _⟩, fun h => (h rfl).elim⟩

theorem Fr.transB {F : Nat → Prop} {w w1 w' : World} (h : Fr F w w1) (k : Fr (fun i => w.heap.size ≤ i) w1 w') : Fr F w w' := h.trans k fun i hi g => by omega

/-- 'append(s, x)': one element of one cell onto a slice of the call's own. -/
theorem wpList_append_one' {P : Program} (w0 : World) {ops : Array Oper} {rest : List Oper} {o : Oper} {a : Act} {Q : Exit → Act → World → Prop} (hg : o.guard = none) (s x : Operand) (t : TypeId)
    (hop : o.op = Op.call { callee := Callee.builtin Builtin.append, args := #[s, x], argTypes := #[t, t] }) (base : Nat) (e : TypeId) (z : Value) (bytes : Nat)
    (ht : P.underlying t = some (.slice e)) (hi : (P.info? e).map (fun i => (i.zero, i.size, i.bytes)) = some (some z, 1, bytes)) (hcz : z.cells.size = 1) (v : Value) (n : Nat) (xs : List Value)
    (hs : a.eval s = v) (hown : w0.ownsRow base e 1 v n xs) (u : Value) (hu : u.oneCell' = true) (hx : a.eval x = .slice (some ⟨w0.heap.size, 0, none⟩) 1 1)
    (hn : n + 1 ≤ 1000000000) (hb : bytes ≤ 1000) (hbase : base ≤ w0.heap.size)
    (K : ∀ v' w', w'.ownsRow base e 1 v' (n + 1) (xs ++ [u]) → Fr (fun k => v.ownBlock = some k) w0 w' → wpList P ops Q rest (a.put o.dst v') w') :
    wpList P ops Q (o :: rest) a (w0.alloc (.cells #[u] e)) := by
  obtain ⟨i0, hi, hz0, hz1, hz2⟩ := info_parts hi
  refine wpList_append_own _ hg s x t hop base e i0 z 1 bytes ht hi hz0 hz1 hz2 hcz (by decide) v n xs hs (hown.alloc _) ⟨w0.heap.size, 0, none⟩ 1 1 [u] hx rfl ?_ ?_ ?_ ?_ ?_ ?_
  · intro j u' hj
    cases j with
    | zero =>
      simp at hj
      subst hj
      exact (Blk.new w0 #[u] e).cell 0 rfl
    | succ j => simp at hj
  · intro u' hu'
    simp at hu'
    subst hu'
    exact hu
  · unfold maxLen; omega
  · exact Nat.le_trans (Nat.mul_le_mul hn hb) (by decide)
  · simp; omega
  · intro v' w' h1 h2 _
    refine K v' w' h1 (((Fr.refl _ _).alloc _).grown h2 fun k _ hk => hk)

theorem Fr.own {w w' : World} {base : Nat} {e : TypeId} {size : Nat} {v : Value} {n : Nat} {xs : List Value} (h : Fr (fun k => v.ownBlock = some k) w w') (ho : w.ownsRow base e size v n xs) : Fr (fun k => base ≤ k) w w' := h.mono fun k _ hk => (ho.lt k hk).1
/-- A block of another element type stays behind an append. -/
theorem Blk.own {w w' : World} {b : Nat} {c : Array Value} {T : TypeId} {base : Nat} {e : TypeId} {size : Nat} {v : Value} {n : Nat} {xs : List Value} (h : Blk w b c T) (ho : w.ownsRow base e size v n xs) (hf : Fr (fun k => v.ownBlock = some k) w w') (hT : T ≠ e) : Blk w' b c T := by
  refine h.fr hf fun hk => ?_
  rcases ho.2 with ⟨rfl, _⟩ | ⟨g, cap, cur, rfl, _, hg, _⟩
  · simp [Value.ownBlock] at hk
  · simp [Value.ownBlock] at hk
    subst hk
    exact Blk.ne h (c' := cur) (T' := e) hg hT rfl
/-- The same, said more roughly. -/
theorem wpList_append_one {P : Program} (w0 : World) {ops : Array Oper} {rest : List Oper} {o : Oper} {a : Act} {Q : Exit → Act → World → Prop} (hg : o.guard = none) (s x : Operand) (t : TypeId)
    (hop : o.op = Op.call { callee := Callee.builtin Builtin.append, args := #[s, x], argTypes := #[t, t] }) (base : Nat) (e : TypeId) (z : Value) (bytes : Nat)
    (ht : P.underlying t = some (.slice e)) (hi : (P.info? e).map (fun i => (i.zero, i.size, i.bytes)) = some (some z, 1, bytes)) (hcz : z.cells.size = 1) (v : Value) (n : Nat) (xs : List Value)
    (hs : a.eval s = v) (hown : w0.ownsRow base e 1 v n xs) (u : Value) (hu : u.oneCell' = true) (hx : a.eval x = .slice (some ⟨w0.heap.size, 0, none⟩) 1 1)
    (hn : n + 1 ≤ 1000000000) (hb : bytes ≤ 1000) (hbase : base ≤ w0.heap.size)
    (K : ∀ v' w', w'.ownsRow base e 1 v' (n + 1) (xs ++ [u]) → Fr (fun k => base ≤ k) w0 w' → wpList P ops Q rest (a.put o.dst v') w') :
    wpList P ops Q (o :: rest) a (w0.alloc (.cells #[u] e)) :=
  wpList_append_one' w0 hg s x t hop base e z bytes ht hi hcz v n xs hs hown u hu hx hn hb hbase fun v' w' h1 h2 => K v' w' h1 (h2.own hown)

theorem Addr.add_zero_spot (b o j : Nat) : (⟨b, o, none⟩ : Addr).add j = ⟨b, o + j, none⟩ := by
  unfold Addr.add
  split
  · subst j; rfl
  · rfl

/-- 'append(s, xs...)': a slice that reads as a list, onto a slice of the call's own. -/
theorem wpList_append_sl {P : Program} (w0 : World) {ops : Array Oper} {rest : List Oper} {o : Oper} {a : Act} {Q : Exit → Act → World → Prop} (hg : o.guard = none) (s x : Operand) (t : TypeId)
    (hop : o.op = Op.call { callee := Callee.builtin Builtin.append, args := #[s, x], argTypes := #[t, t] }) (base : Nat) (e : TypeId) (z : Value) (bytes : Nat)
    (ht : P.underlying t = some (.slice e)) (hi : (P.info? e).map (fun i => (i.zero, i.size, i.bytes)) = some (some z, 1, bytes)) (hcz : z.cells.size = 1) (v : Value) (n : Nat) (xs : List Value)
    (hs : a.eval s = v) (hown : w0.ownsRow base e 1 v n xs) (F : Nat → Prop) (vx : Value) (news : List Value) (hx : a.eval x = vx) (hsl : SlAt F w0 vx news) (h1 : ∀ u, u ∈ news → u.oneCell' = true)
    (hn : n + news.length ≤ 1000000000) (hb : bytes ≤ 1000) (hbase : base ≤ w0.heap.size)
    (K : ∀ v' w', w'.ownsRow base e 1 v' (n + news.length) (xs ++ news) → Fr (fun k => base ≤ k) w0 w' → wpList P ops Q rest (a.put o.dst v') w') :
    wpList P ops Q (o :: rest) a w0 := by
  obtain ⟨i0, hi, hz0, hz1, hz2⟩ := info_parts hi
  obtain ⟨p, cap, rfl, h0, hc⟩ := hsl
  have fin : ∀ v' w', w'.ownsRow base e 1 v' (n + news.length) (xs ++ news) → w0.grownBy w' v.ownBlock → (v' = Value.slice none 0 0 ↔ v = Value.slice none 0 0 ∧ news.length = 0) → wpList P ops Q rest (a.put o.dst v') w' := by
    intro v' w' h1 h2 _
    exact K v' w' h1 ((Fr.refl _ _).grown h2 fun k _ hk => (hown.lt k hk).1)
  have bnd : (n + news.length) * bytes ≤ 140737488355328 := Nat.le_trans (Nat.mul_le_mul hn hb) (by decide)
  by_cases hne : news = []
  · subst hne
    cases p with
    | none =>
      obtain rfl := h0.1 rfl
      refine wpList_append_own_none hg s x t hop base e i0 1 ht hi v n xs hs hown hx ?_
      exact fin v w0 (by simpa using hown) ⟨rfl, rfl, rfl, Nat.le_refl _, fun _ _ _ => rfl⟩ (by simp)
    | some ad =>
      exact wpList_append_own w0 hg s x t hop base e i0 z 1 bytes ht hi hz0 hz1 hz2 hcz (by decide) v n xs hs hown ad 0 cap [] hx rfl (by simp) (by simp) (by unfold maxLen; omega) bnd hbase fin
  · obtain ⟨b, o', rfl, _, _, hcc⟩ := hc hne
    refine wpList_append_own w0 hg s x t hop base e i0 z 1 bytes ht hi hz0 hz1 hz2 hcz (by decide) v n xs hs hown ⟨b, o', none⟩ news.length cap news hx (by simp) ?_ h1 (by unfold maxLen; omega) bnd hbase fin
    intro j u hj
    have hlt : j < news.length := by
      rcases Nat.lt_or_ge j news.length with h | h
      · exact h
      · rw [List.getElem?_eq_none h] at hj; simp at hj
    rw [Addr.add_zero_spot, hcc j hlt]
    rw [List.getElem?_eq_getElem hlt] at hj
    exact hj

/-- A fresh row of no element. -/
theorem ownsRow_empty (w : World) (e : TypeId) : (w.alloc (.cells #[] e)).ownsRow w.heap.size e 1 (.slice (some ⟨w.heap.size, 0, none⟩) 0 0) 0 [] :=
  ⟨rfl, .inr ⟨w.heap.size, 0, #[], rfl, Nat.le_refl _, Blk.new _ _ _, Nat.le_refl _, by unfold maxLen; omega, rfl, rfl⟩⟩

/-- What the call owns reads as a slice. -/
theorem SlAt.owned {w : World} {base : Nat} {e : TypeId} {v : Value} {n : Nat} {xs : List Value} (h : w.ownsRow base e 1 v n xs) : SlAt (fun k => base ≤ k) w v xs := by
  obtain ⟨hl, h⟩ := h
  rw [Nat.mul_one] at hl
  rcases h with ⟨rfl, rfl⟩ | ⟨g, cap, cur, rfl, hb, hg, h1, h2, h3, h4⟩
  · exact ⟨none, 0, by rw [hl], ⟨fun _ => rfl, by omega⟩, fun hne => by cases xs <;> simp_all⟩
  · refine ⟨_, cap, by rw [hl], ⟨fun h => by simp at h, by omega⟩, fun hne => ⟨g, 0, rfl, hb, Blk.lt (c := cur) (T := e) hg, fun j hj => ?_⟩⟩
    rw [Nat.zero_add, Blk.cellEq (c := cur) (T := e) hg]
    have : xs[j]? = cur.toList[j]? := by rw [← h4, List.getElem?_take_of_lt (by omega)]
    rw [List.getElem?_eq_getElem hj] at this
    rw [this]
    simp

/-- A cell of an old block outside the footprint. -/
theorem Fr.cell {F : Nat → Prop} {w w' : World} (h : Fr F w w') {b i : Nat} {v : Value} (hc : w.cell? ⟨b, i, none⟩ = some v) (hF : ¬ F b) : w'.cell? ⟨b, i, none⟩ = some v := by
  have hb : b < w.heap.size := by
    rcases Nat.lt_or_ge b w.heap.size with h | h
    · exact h
    · simp [World.cell?, Array.getElem?_eq_none h] at hc
  rw [World.cell?_of_block (w := w) (h.block b hb hF)]; exact hc
theorem Fr.cellN {w w' : World} (h : Fr NoF w w') {b i : Nat} {v : Value} (hc : w.cell? ⟨b, i, none⟩ = some v) : w'.cell? ⟨b, i, none⟩ = some v := h.cell hc id
theorem Fr.ofDrew {F : Nat → Prop} {w w' : World} (h : Fr F w.drew w') : Fr F w w' := ⟨h.os, h.tape, h.output, h.size, h.block⟩
theorem Fr.ofDrewN {F : Nat → Prop} {w w' : World} {n : Nat} (h : Fr F (w.drewN n) w') : Fr F w w' := ⟨h.os, h.tape, h.output, h.size, h.block⟩

theorem ownsRow_slice {w : World} {base : Nat} {e : TypeId} {size : Nat} {v : Value} {n : Nat} {xs : List Value} (h : w.ownsRow base e size v n xs) : ∃ p cap, v = .slice p n cap := by
  obtain ⟨_, h⟩ := h
  rcases h with ⟨rfl, rfl⟩ | ⟨g, cap, cur, rfl, _⟩
  · exact ⟨_, _, rfl⟩
  · exact ⟨_, _, rfl⟩

/-- 'append(s, x)' at a step of a region that draws. -/
theorem step_append_one {P : Program} {ops : Array Oper} {o : Oper} {a : Act} {w : World} {K : Act → World → Prop} {Q : Exit → Act → World → Prop} {E : Prop}
    (hg : o.guard = none) (s x : Operand) (t : TypeId) (hop : o.op = Op.call { callee := Callee.builtin Builtin.append, args := #[s, x], argTypes := #[t, t] })
    (base : Nat) (e : TypeId) (z : Value) (bytes : Nat) (ht : P.underlying t = some (.slice e)) (hi : (P.info? e).map (fun i => (i.zero, i.size, i.bytes)) = some (some z, 1, bytes)) (hcz : z.cells.size = 1)
    (v : Value) (n : Nat) (xs : List Value) (hs : a.eval s = v) (hown : w.ownsRow base e 1 v n xs) (u : Value) (hu : u.oneCell' = true) (g0 : Nat) (hx : a.eval x = .slice (some ⟨g0, 0, none⟩) 1 1) (hblk : Blk w g0 #[u] e)
    (hn : n + 1 ≤ 1000000000) (hb : bytes ≤ 1000) (hbase : base ≤ w.heap.size)
    (hK : ∀ g cap w', w'.ownsRow base e 1 (.slice (some ⟨g, 0, none⟩) (n + 1) cap) (n + 1) (xs ++ [u]) → Fr (fun k => base ≤ k) w w' → K (a.put o.dst (.slice (some ⟨g, 0, none⟩) (n + 1) cap)) w') :
    if Region.wanted o (yielded ops a.tmps) = true then Oper.wp P o a w K Q else E := by
  have hw : Region.wanted o (yielded ops a.tmps) = true := by simp [Region.wanted, hg]
  rw [if_pos hw]
  obtain ⟨i0, hi, hz0, hz1, hz2⟩ := info_parts hi
  refine wp_append_lies w s x t hop base e i0 z 1 bytes ht hi hz0 hz1 hz2 hcz (by decide) v n xs hs hown ⟨g0, 0, none⟩ 1 1 [u] hx rfl ?_ ?_ (by decide) ?_ ?_ hbase _ rfl ?_
  · intro j u' hj
    cases j with
    | zero =>
      simp at hj
      subst hj
      exact hblk.cell 0 rfl
    | succ j => simp at hj
  · intro u' hu'
    simp at hu'
    subst hu'
    exact hu
  · unfold maxLen; omega
  · exact Nat.le_trans (Nat.mul_le_mul hn hb) (by decide)
  · intro g cap w' h1 h2 _ _
    exact hK g cap w' h1 ((Fr.refl _ _).grown h2 fun k _ hk => (hown.lt k hk).1)

/-- What the call owns, opened: its block and cells. -/
theorem own_cells {w : World} {base : Nat} {e : TypeId} {v : Value} {n : Nat} {xs : List Value} (h : w.ownsRow base e 1 v n xs) (hn : 0 < n) :
    ∃ g cap, v = .slice (some ⟨g, 0, none⟩) n cap ∧ base ≤ g ∧ g < w.heap.size ∧ ∀ j u, xs[j]? = some u → w.cell? ⟨g, j, none⟩ = some u ∧ w.frozen? ⟨g, j, none⟩ = false := by
  obtain ⟨hl, h⟩ := h
  rcases h with ⟨rfl, rfl⟩ | ⟨g, cap, cur, rfl, hb, hg, h1, h2, h3, h4⟩
  · omega
  · refine ⟨g, cap, rfl, hb, Blk.lt (c := cur) (T := e) hg, fun j u hj => ⟨?_, Blk.frozen (c := cur) (T := e) hg j⟩⟩
    have hlt : j < n * 1 := by
      rcases Nat.lt_or_ge j xs.length with h | h
      · omega
      · rw [List.getElem?_eq_none h] at hj; simp at hj
    rw [← h4, List.getElem?_take_of_lt hlt] at hj
    exact Blk.cell (c := cur) (T := e) hg j (by simpa using hj)

/-- What the call owns stays owned where its blocks stay. -/
theorem ownsRow_frN {w w' : World} {base : Nat} {e : TypeId} {size : Nat} {v : Value} {n : Nat} {xs : List Value} (h : w.ownsRow base e size v n xs) (hf : Fr NoF w w') : w'.ownsRow base e size v n xs := by
  obtain ⟨h1, h2⟩ := h
  refine ⟨h1, ?_⟩
  rcases h2 with h2 | ⟨g, cap, cur, hv, hb, hg, r⟩
  · exact .inl h2
  · exact .inr ⟨g, cap, cur, hv, hb, Blk.frN (c := cur) (T := e) hg hf, r⟩

/-- 'copy(d, s)' into a row of known content. -/
theorem wpList_copy_sl {P : Program} {w : World} {ops : Array Oper} {rest : List Oper} {o : Oper} {a : Act} {Q : Exit → Act → World → Prop} (hgd : o.guard = none) (d s : Operand) (dT sT : TypeId)
    (ho : o.op = .call { callee := .builtin .copy, args := #[d, s], argTypes := #[dT, sT] }) (elem : TypeId) (hu : P.underlying dT = some (.slice elem)) (hsz : (P.info? elem).map (·.size) = some 1)
    (g n c : Nat) (cur : List Value) (T : TypeId) (hd : a.eval d = .slice (some ⟨g, 0, none⟩) n c) (hb : Blk w g cur.toArray T) (hcn : n ≤ cur.length) (F : Nat → Prop) (vx : Value) (news : List Value) (hx : a.eval s = vx) (hsl : SlAt F w vx news)
    (h1 : ∀ u, u ∈ news → u.oneCell' = true)
    (K : ∀ w', Blk w' g (news.take n ++ cur.drop (min news.length n)).toArray T → Fr (fun k => k = g) w w' → wpList P ops Q rest (a.put o.dst (goInt (min news.length n : Nat))) w') :
    wpList P ops Q (o :: rest) a w := by
  obtain ⟨p, cap, rfl, h0, hc⟩ := hsl
  have hm : Nat.min news.length n = min news.length n := rfl
  by_cases hz : min news.length n = 0
  · refine wpList_copy_nothing hgd d s dT sT ho elem hu hsz _ _ _ _ _ _ hd hx (by rw [hm]; exact hz) ?_
    have := K w (by
      have e : news.take n = [] := by
        apply List.eq_nil_of_length_eq_zero
        rw [List.length_take]
        omega
      rw [e, hz]; simpa using hb) (Fr.refl _ _)
    rw [hz] at this
    exact this
  · obtain ⟨b, o', rfl, _, _, hcc⟩ := hc (by intro e; subst e; simp at hz)
    have hl : (news.take n).length = min news.length n := by rw [List.length_take]; omega
    refine wpList_copy_own hgd d s dT sT ho elem hu hsz g 0 n c ⟨b, o', none⟩ _ _ hd hx cur.toArray T hb (news.take n) (by rw [hl, hm]) ?_ (by rw [hl]; simp; omega) (fun u hu => h1 u (List.mem_of_mem_take hu)) ?_
    · intro j u hj
      have hlt : j < news.length ∧ j < n := by
        rcases Nat.lt_or_ge j (news.take n).length with h | h
        · rw [hl] at h; omega
        · rw [List.getElem?_eq_none h] at hj; simp at hj
      rw [List.getElem?_take_of_lt hlt.2, List.getElem?_eq_getElem hlt.1] at hj
      rw [Addr.add_zero_spot, hcc j hlt.1]
      exact hj
    · have := K (w.setRow g (cur.take 0 ++ (news.take n ++ cur.drop (0 + (news.take n).length))).toArray) ?_ ?_
      · rw [hl] at this ⊢
        simpa using this
      · have h2 := setRow_heap w g cur.toArray (cur.take 0 ++ (news.take n ++ cur.drop (0 + (news.take n).length))).toArray T _ hb
        unfold Blk
        rw [h2, hl]
        simp
      · exact ⟨rfl, rfl, rfl, by simp [World.setRow], fun k _ hk => setRow_other w g k _ hk⟩

/-- What the call owns stays owned behind an append onto a slice of another element type. -/
theorem ownsRow_own {w w' : World} {base : Nat} {e : TypeId} {size : Nat} {v : Value} {n : Nat} {xs : List Value} {base' : Nat} {e' : TypeId} {size' : Nat} {v' : Value} {n' : Nat} {xs' : List Value}
    (h : w.ownsRow base e size v n xs) (ho : w.ownsRow base' e' size' v' n' xs') (hf : Fr (fun k => v'.ownBlock = some k) w w') (hT : e ≠ e') : w'.ownsRow base e size v n xs := by
  obtain ⟨h1, h2⟩ := h
  refine ⟨h1, ?_⟩
  rcases h2 with h2 | ⟨g, cap, cur, hv, hb, hg, r⟩
  · exact .inl h2
  · exact .inr ⟨g, cap, cur, hv, hb, Blk.own (c := cur) (T := e) hg ho hf hT, r⟩
theorem ownsRow_base {w : World} {base base' : Nat} {e : TypeId} {size : Nat} {v : Value} {n : Nat} {xs : List Value} (h : w.ownsRow base e size v n xs) (hb : base' ≤ base) : w.ownsRow base' e size v n xs := by
  obtain ⟨h1, h2⟩ := h
  refine ⟨h1, ?_⟩
  rcases h2 with h2 | ⟨g, cap, cur, hv, hb', r⟩
  · exact .inl h2
  · exact .inr ⟨g, cap, cur, hv, Nat.le_trans hb hb', r⟩

theorem get_replicate {n i : Nat} (v : Value) (h : i < n) : (Array.replicate n v)[i]? = some v := by
  rw [Array.getElem?_replicate, if_pos h]
end Go.Proofs.YtamdmkjejpkbiaaGreatDoor
