/- A slice that is being built, as a thing of its own: appends onto it. No function of the program. -/
import Derived.Test.YtamdmkjejpkbiaaGreatDoorSep
import Derived.Test.YtamdmkjejpkbiaaGreatDoorZeros
import Derived.Maps.AppendAt
namespace Go.Proofs.YtamdmkjejpkbiaaGreatDoor
open Go Go.RowKit

theorem Sep.assoc {A B C : Hp} {w : World} {F : Nat → Prop} (h : Sep (Sep A B) C w F) : Sep A (Sep B C) w F := by
  obtain ⟨hi, F1, F2, h1, h2, ha, ⟨hj, G1, G2, g1, g2, gb, hA, hB⟩, hC⟩ := h
  refine ⟨hi, G1, fun k => G2 k ∨ F2 k, fun k hk => h1 k (g1 k hk), fun k hk => ?_, fun k hk hn => ?_, hA, ⟨fun k hk => ?_, G2, F2, fun k hk => .inl hk, fun k hk => .inr hk, fun k hk => ha k (g2 k hk), hB, hC⟩⟩
  · exact hk.elim (fun g => h1 k (g2 k g)) (h2 k)
  · exact hn.elim (gb k hk) (ha k (g1 k hk))
  · exact hi k (hk.elim (fun g => h1 k (g2 k g)) (h2 k))
/-- The next thing first. -/
theorem Sep.rot {A B C : Hp} {w : World} {F : Nat → Prop} (h : Sep A (Sep B C) w F) : Sep B (Sep C A) w F := h.swap.assoc
/-- The second thing first, the first one behind it. -/
theorem Sep.ex {A B C : Hp} {w : World} {F : Nat → Prop} (h : Sep A (Sep B C) w F) : Sep B (Sep A C) w F := h.rot.map (fun _ h => h) fun _ h => h.swap
theorem Sep.ex2 {A B C D : Hp} {w : World} {F : Nat → Prop} (h : Sep A (Sep B (Sep C D)) w F) : Sep C (Sep A (Sep B D)) w F := (h.map (fun _ h => h) fun _ h => h.ex).ex
theorem Sep.in2 {A B C D : Hp} {w : World} {F : Nat → Prop} (h : Sep C (Sep A (Sep B D)) w F) : Sep A (Sep B (Sep C D)) w F := h.ex.map (fun _ h => h) fun _ h => h.ex
theorem Sep.ex3 {A B C D E : Hp} {w : World} {F : Nat → Prop} (h : Sep A (Sep B (Sep C (Sep D E))) w F) : Sep D (Sep A (Sep B (Sep C E))) w F := (h.map (fun _ h => h) fun _ h => h.ex2).ex
theorem Sep.in3 {A B C D E : Hp} {w : World} {F : Nat → Prop} (h : Sep D (Sep A (Sep B (Sep C E))) w F) : Sep A (Sep B (Sep C (Sep D E))) w F := h.ex.map (fun _ h => h) fun _ h => h.in2
theorem New.ex {A B C : Hp} {w w1 : World} (h : New w (Sep A (Sep B C)) w1) : New w (Sep B (Sep A C)) w1 := h.map fun _ => Sep.ex
theorem New.ex2 {A B C D : Hp} {w w1 : World} (h : New w (Sep A (Sep B (Sep C D))) w1) : New w (Sep C (Sep A (Sep B D))) w1 := h.map fun _ => Sep.ex2
theorem New.in2 {A B C D : Hp} {w w1 : World} (h : New w (Sep C (Sep A (Sep B D))) w1) : New w (Sep A (Sep B (Sep C D))) w1 := h.map fun _ => Sep.in2
theorem New.ex3 {A B C D E : Hp} {w w1 : World} (h : New w (Sep A (Sep B (Sep C (Sep D E)))) w1) : New w (Sep D (Sep A (Sep B (Sep C E)))) w1 := h.map fun _ => Sep.ex3
theorem New.in3 {A B C D E : Hp} {w w1 : World} (h : New w (Sep D (Sep A (Sep B (Sep C E)))) w1) : New w (Sep A (Sep B (Sep C (Sep D E)))) w1 := h.map fun _ => Sep.in3
theorem New.assoc {A B C : Hp} {w w1 : World} (h : New w (Sep (Sep A B) C) w1) : New w (Sep A (Sep B C)) w1 := h.map fun _ => Sep.assoc
theorem New.rot {A B C : Hp} {w w1 : World} (h : New w (Sep A (Sep B C)) w1) : New w (Sep B (Sep C A)) w1 := h.map fun _ => Sep.rot
theorem New.drop {A B : Hp} {w w1 : World} (h : New w (Sep A B) w1) (hB : Stb B) : New w B w1 := h.map fun _ h => by
  obtain ⟨F1, h1, h2⟩ := h.right
  exact hB.mono h2 h1 h.1

/-- A slice that is the call's own, its block within the footprint. -/
def ownH (e : TypeId) (v : Value) (xs : List Value) : Hp := fun w F => InF F w ∧ (∀ k, v.ownBlock = some k → F k) ∧ w.ownsRow 0 e 1 v xs.length xs
theorem ownH_stb (e : TypeId) (v : Value) (xs : List Value) : Stb (ownH e v xs) where
  fr := fun ⟨h1, h2, h3, h4⟩ hf ha => by
    refine ⟨h1.le hf.size, h2, h3, ?_⟩
    rcases h4 with h4 | ⟨g, cap, cur, rfl, hb, hg, r⟩
    · exact .inl h4
    · exact .inr ⟨g, cap, cur, rfl, hb, Blk.fr (c := cur) (T := e) hg hf (fun h => ha g (h2 g rfl) h), r⟩
  inF := fun h => h.1
  mono := fun ⟨_, h2, h3⟩ hm hg => ⟨hg, fun k hk => hm k (h2 k hk), h3⟩
section
variable {w w' : World} {F G : Nat → Prop} {e : TypeId} {v : Value} {xs news : List Value}
theorem ownH.shape (h : ownH e v xs w F) : ∃ p c, v = .slice p xs.length c := ownsRow_slice h.2.2
theorem ownH.sl (h : ownH e v xs w F) : SlAt AllF w v xs := (SlAt.owned h.2.2).mono fun _ _ => trivial
theorem ownH.nil (hi : InF F w) : ownH e (.slice none 0 0) [] w F := ⟨hi, fun k hk => by simp [Value.ownBlock] at hk, rfl, .inl ⟨rfl, rfl⟩⟩
/-- A fresh row of no element, its number as the walk writes it. -/
theorem ownH.empty {W : World} {g : Nat} (hg : g = W.heap.size) (hgl : gl ≤ W.heap.size) : ownH e (.slice (some ⟨g, 0, none⟩) 0 0) [] (W.alloc (.cells #[] e)) (upF NoF W (W.alloc (.cells #[] e))) := by
  subst hg
  refine ⟨(InF.no W).up hgl (by simp), fun k hk => ?_, ownsRow_base (ownsRow_empty W e) (Nat.zero_le _)⟩
  simp [Value.ownBlock] at hk
  subst hk
  exact .inr ⟨Nat.le_refl _, by simp⟩
theorem ownH.emptyD {W : World} {g : Nat} (hg : g = W.heap.size) (hgl : gl ≤ W.heap.size) : ownH e (.slice (some ⟨g, 0, none⟩) 0 0) [] (W.alloc (.cells #[] e)).drew (upF NoF W (W.alloc (.cells #[] e)).drew) := ownH.empty hg hgl
/-- What was built since a world is a thing of its own beside what was there. -/
theorem ownH.of {w0 : World} {n : Nat} (hg : gl ≤ w0.heap.size) (hf : Fr NoF w0 w) (h : w.ownsRow w0.heap.size e 1 v n xs) (hn : n = xs.length) : ownH e v xs w (upF NoF w0 w) := by
  subst hn
  refine ⟨(InF.no w0).up hg hf.size, fun k hk => .inr ?_, ownsRow_base h (Nat.zero_le _)⟩
  have := h.lt k hk
  exact ⟨this.1, this.2⟩
/-- A cell of it. -/
theorem ownH.get {p : Option Addr} {n c : Nat} (h : ownH e (.slice p n c) xs w F) {k : Nat} (hk : k < xs.length) : ∃ g, p = some ⟨g, 0, none⟩ ∧ w.cell? ⟨g, k, none⟩ = some xs[k] := by
  obtain ⟨g, c', e, _, _, hc⟩ := own_cells h.2.2 (by omega)
  injection e with e1 _ _
  subst e1
  exact ⟨g, rfl, (hc k _ (List.getElem?_eq_getElem hk)).1⟩
/-- One cell in a block of its own reads as a slice. -/
theorem SlAt.one {g : Nat} {u : Value} (h : Blk w g #[u] e) : SlAt AllF w (.slice (some ⟨g, 0, none⟩) 1 1) [u] :=
  ⟨some ⟨g, 0, none⟩, 1, rfl, ⟨fun h => by simp at h, Nat.le_refl _⟩, fun _ => ⟨g, 0, rfl, trivial, h.lt, fun j hj => by
    have : j = 0 := by simp at hj; omega
    subst this
    exact h.cell 0 rfl⟩⟩
theorem SlAt.oneA {W : World} {g : Nat} {u : Value} (hg : g = W.heap.size) : SlAt AllF (W.alloc (.cells #[u] e)) (.slice (some ⟨g, 0, none⟩) 1 1) [u] := SlAt.one (Blk.newAt hg _ _)
theorem SlAt.oneD {W : World} {g : Nat} {u : Value} (hg : g = W.heap.size) : SlAt AllF (W.alloc (.cells #[u] e)).drew (.slice (some ⟨g, 0, none⟩) 1 1) [u] := SlAt.one (Blk.newAt hg _ _).drew

theorem run_append_H {P : Program} (t ty : TypeId) (z : Value) (bytes : Nat) (ht : P.underlying t = some (.slice e)) (hi : (P.info? e).map (fun i => (i.zero, i.size, i.bytes)) = some (some z, 1, bytes)) (hcz : z.cells.size = 1)
    (hown : ownH e v xs w F) {vx : Value} (hsl : SlAt G w vx news) (h1 : ∀ u, u ∈ news → u.oneCell' = true) (hn : xs.length + news.length ≤ 1000000000) (hb : bytes ≤ 1000) (hgl : gl ≤ w.heap.size) :
    ∃ v' w', (Builtin.append_ #[t, t] ty #[v, vx]).run P w = .ok v' w' ∧ Fr F w w' ∧ ownH e v' (xs ++ news) w' (upF F w w') := by
  obtain ⟨i0, hi, hz0, hz1, hz2⟩ := info_parts hi
  obtain ⟨p, cap, rfl, h0, hc⟩ := hsl
  obtain ⟨hin, hob, hrow⟩ := hown
  have bnd : (xs.length + news.length) * bytes ≤ 140737488355328 := Nat.le_trans (Nat.mul_le_mul hn hb) (by decide)
  have fin : ∀ v' w', w'.ownsRow 0 e 1 v' (xs.length + news.length) (xs ++ news) → w.grownBy w' v.ownBlock → (v'.ownBlock = v.ownBlock ∨ v'.ownBlock = some w.heap.size) → Fr F w w' ∧ ownH e v' (xs ++ news) w' (upF F w w') := by
    intro v' w' k1 k2 k3
    have hf : Fr F w w' := ((Fr.refl F w).grown k2 fun k _ hk => hob k hk)
    refine ⟨hf, hin.up hgl hf.size, fun k hk => ?_, by rw [List.length_append]; exact k1⟩
    rcases k3 with k3 | k3
    · exact .inl (hob k (by rw [← k3, hk]))
    · rw [k3] at hk
      simp at hk
      subst hk
      exact .inr ⟨Nat.le_refl _, (k1.lt _ k3).2⟩
  by_cases hne : news = []
  · subst hne
    cases p with
    | none =>
      obtain rfl := h0.1 rfl
      exact ⟨v, w, run_append_owned_none w 0 t ty e i0 1 ht hi v xs.length xs hrow, fin v w (by simpa using hrow) ⟨rfl, rfl, rfl, Nat.le_refl _, fun _ _ _ => rfl⟩ (.inl rfl)⟩
    | some ad =>
      obtain ⟨v', w', hr, k1, k2, _, k3⟩ := run_append_own_at (P := P) w 0 t ty e i0 z 1 bytes ht hi hz0 hz1 hz2 hcz (by decide) v xs.length xs hrow ad 0 cap [] rfl (by simp) (by simp) (by unfold maxLen; simp at hn; omega) bnd (Nat.zero_le _)
      exact ⟨v', w', hr, fin v' w' k1 k2 k3⟩
  · obtain ⟨b, o', rfl, _, _, hcc⟩ := hc hne
    obtain ⟨v', w', hr, k1, k2, _, k3⟩ := run_append_own_at (P := P) w 0 t ty e i0 z 1 bytes ht hi hz0 hz1 hz2 hcz (by decide) v xs.length xs hrow ⟨b, o', none⟩ news.length cap news (by simp) (fun j u hj => by
      have hlt : j < news.length := by
        rcases Nat.lt_or_ge j news.length with h | h
        · exact h
        · rw [List.getElem?_eq_none h] at hj; simp at hj
      rw [Addr.add_zero_spot, hcc j hlt]
      rw [List.getElem?_eq_getElem hlt] at hj
      exact hj) h1 (by unfold maxLen; omega) bnd (Nat.zero_le _)
    exact ⟨v', w', hr, fin v' w' k1 k2 k3⟩

/-- 'append(s, xs...)' onto such a slice. -/
theorem wpList_append_H {P : Program} {ops : Array Oper} {rest : List Oper} {o : Oper} {a : Act} {Q : Exit → Act → World → Prop} (hg : o.guard = none) (s x : Operand) (t : TypeId)
    (hop : o.op = Op.call { callee := Callee.builtin Builtin.append, args := #[s, x], argTypes := #[t, t] }) (z : Value) (bytes : Nat)
    (ht : P.underlying t = some (.slice e)) (hi : (P.info? e).map (fun i => (i.zero, i.size, i.bytes)) = some (some z, 1, bytes)) (hcz : z.cells.size = 1)
    (hs : a.eval s = v) (hown : ownH e v xs w F) (vx : Value) (hx : a.eval x = vx) (hsl : SlAt G w vx news) (h1 : ∀ u, u ∈ news → u.oneCell' = true) (hn : xs.length + news.length ≤ 1000000000) (hb : bytes ≤ 1000) (hgl : gl ≤ w.heap.size)
    (K : ∀ v' w', Fr F w w' → ownH e v' (xs ++ news) w' (upF F w w') → wpList P ops Q rest (a.put o.dst v') w') : wpList P ops Q (o :: rest) a w := by
  obtain ⟨v', w', hr, k1, k2⟩ := run_append_H (P := P) t o.type z bytes ht hi hcz hown hsl h1 hn hb hgl
  exact Go.Lib.wpList_append_run w hg s x t t hop v vx hs hx v' w' hr (K v' w' k1 k2)
/-- The same at a step of a region that draws. -/
theorem step_append_H {P : Program} {ops : Array Oper} {o : Oper} {a : Act} {Kc : Act → World → Prop} {Q : Exit → Act → World → Prop} {E : Prop} (hg : o.guard = none) (s x : Operand) (t : TypeId)
    (hop : o.op = Op.call { callee := Callee.builtin Builtin.append, args := #[s, x], argTypes := #[t, t] }) (z : Value) (bytes : Nat)
    (ht : P.underlying t = some (.slice e)) (hi : (P.info? e).map (fun i => (i.zero, i.size, i.bytes)) = some (some z, 1, bytes)) (hcz : z.cells.size = 1)
    (hs : a.eval s = v) (hown : ownH e v xs w F) (vx : Value) (hx : a.eval x = vx) (hsl : SlAt G w vx news) (h1 : ∀ u, u ∈ news → u.oneCell' = true) (hn : xs.length + news.length ≤ 1000000000) (hb : bytes ≤ 1000) (hgl : gl ≤ w.heap.size)
    (K : ∀ v' w', Fr F w w' → ownH e v' (xs ++ news) w' (upF F w w') → Kc (a.put o.dst v') w') :
    if Region.wanted o (yielded ops a.tmps) = true then Oper.wp P o a w Kc Q else E := by
  have hw : Region.wanted o (yielded ops a.tmps) = true := by simp [Region.wanted, hg]
  rw [if_pos hw]
  obtain ⟨v', w', hr, k1, k2⟩ := run_append_H (P := P) t o.type z bytes ht hi hcz hown hsl h1 hn hb hgl
  exact Go.Lib.wp_append_run w s x t t hop v vx hs hx v' w' hr (K v' w' k1 k2)
end
end Go.Proofs.YtamdmkjejpkbiaaGreatDoor
