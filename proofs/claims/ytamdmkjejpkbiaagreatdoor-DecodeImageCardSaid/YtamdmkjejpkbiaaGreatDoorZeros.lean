/- 'append(s, make([]T, k)...)' onto a slice of the call's own; appends at a step of a region that draws. No function of the program. -/
import Derived.Test.YtamdmkjejpkbiaaGreatDoorMem
import Derived.Lib.AppendZerosOnto
namespace Go.Proofs.YtamdmkjejpkbiaaGreatDoor
open Go Go.RowKit

/-- A fresh row of no element, its block's number as the walk writes it. -/
theorem own_empty {W : World} {B g : Nat} {e : TypeId} (hg : g = W.heap.size) (hB : B ≤ g) : (W.alloc (.cells #[] e)).ownsRow B e 1 (.slice (some ⟨g, 0, none⟩) 0 0) 0 [] := by
  subst hg
  exact ownsRow_base (ownsRow_empty W e) hB
theorem own_emptyD {W : World} {B g : Nat} {e : TypeId} (hg : g = W.heap.size) (hB : B ≤ g) : (W.alloc (.cells #[] e)).drew.ownsRow B e 1 (.slice (some ⟨g, 0, none⟩) 0 0) 0 [] := own_empty hg hB
theorem zeroCells_one (z : Value) (n : Nat) (hc : z.cells = #[z]) : Builtin.zeroCells z.cells n = Array.replicate n z := by
  unfold Builtin.zeroCells
  rw [hc]
  apply Array.ext
  · simp
  · intro i h1 h2
    simp [Nat.mod_one]

theorem run_append_room_zeros {P : Program} (w : World) (t tn ty e : TypeId) (i : TypeInfo) (z : Value) (kq kn : IntKind) (ht : P.underlying t = some (.slice e)) (htn : P.underlying tn = some (.int kn)) (hi : P.info? e = some i) (hz : i.zero = some z) (hc : z.cells = #[z]) (hsz : i.size = 1) (hz1 : z.oneCell' = true)
    (g sLen sCap : Nat) (cur : Array Value) (hg : w.heap[g]? = some (.cells cur e (0, 0))) (k : Nat) (h0 : 0 < k) (hb : k * i.bytes ≤ 281474976710656) (hk : k ≤ 9223372036854775807) (hroom : sLen + k ≤ sCap) (hfit : sLen + k ≤ cur.size) :
    (Builtin.append_ #[t, tn] ty #[.slice (some ⟨g, 0, none⟩) sLen sCap, .int kq k]).run P w =
      .ok (.slice (some ⟨g, 0, none⟩) (sLen + k) sCap) (w.setRow g (cur.toList.take sLen ++ List.replicate k z ++ cur.toList.drop (sLen + k)).toArray) := by
  have hst := run_storeCells_at P g sLen e (List.replicate k z) 0 cur w hg (by simpa using hfit) (fun u hu => by rw [List.eq_of_mem_replicate hu]; exact hz1)
  simp only [Nat.add_zero, List.length_replicate] at hst
  have hk0 : k ≠ 0 := by omega
  have hw : IntKind.i64.wrap (k : Int) = k := by rw [IntKind.wrap_i64]; omega
  have h48i : ¬ (281474976710656 < (k : Int) * (i.bytes : Int)) := by
    rw [← Int.natCast_mul]
    omega
  have hneg : ¬ ((k : Int) < 0) := by omega
  have hzc := zeroCells_one z k hc
  simp [Builtin.append_, run_underlying ht, run_underlying htn, sizeOf, typeInfo, zeroValue, hi, hz, hsz, asInt, asIntOf, hw, hk0, hneg, h48i, hroom, hzc, Addr.add_lit, hst]

/-- 'append(s, make([]T, k)...)', an element of one cell. -/
theorem run_append_own_zeros {P : Program} (w : World) (base : Nat) (t tn ty e : TypeId) (z : Value) (bytes : Nat) (kq kn : IntKind) (ht : P.underlying t = some (.slice e)) (htn : P.underlying tn = some (.int kn)) (hi : (P.info? e).map (fun i => (i.zero, i.size, i.bytes)) = some (some z, 1, bytes)) (hc : z.cells = #[z]) (hz1 : z.oneCell' = true)
    (v : Value) (n : Nat) (xs : List Value) (hown : w.ownsRow base e 1 v n xs) (k : Nat) (h0 : 0 < k) (hn : n + k ≤ 1000000000) (hb : bytes ≤ 1000) (hbase : base ≤ w.heap.size) :
    ∃ v' w', (Builtin.append_ #[t, tn] ty #[v, .int kq k]).run P w = .ok v' w' ∧ w'.ownsRow base e 1 v' (n + k) (xs ++ List.replicate k z) ∧ w.grownBy w' v.ownBlock := by
  obtain ⟨i, hi, hz, hsz, hby⟩ := info_parts hi
  have hbk : (n + k) * i.bytes ≤ 1000000000 * 1000 := by rw [hby]; exact Nat.mul_le_mul hn hb
  have hkb : k * i.bytes ≤ (n + k) * i.bytes := Nat.mul_le_mul_right _ (by omega)
  have hlen : (xs ++ List.replicate k z).length = (n + k) * 1 := by rw [List.length_append, hown.1, List.length_replicate]; omega
  have grown : ∀ (old : Nat), ∀ (row : Option Nat),
      (w.drew.alloc (.cells (xs.toArray ++ Builtin.zeroCells z.cells k ++ Builtin.zeroCells z.cells (grownCap w (n + k) old e - (n + k))) e)).ownsRow base e 1
        (.slice (some ⟨w.heap.size, 0, none⟩) (n + k) (grownCap w (n + k) old e)) (n + k) (xs ++ List.replicate k z) ∧
      w.grownBy (w.drew.alloc (.cells (xs.toArray ++ Builtin.zeroCells z.cells k ++ Builtin.zeroCells z.cells (grownCap w (n + k) old e - (n + k))) e)) row := by
    intro old row
    have hge := grownCap_ge w (n + k) old e
    have hcm : grownCap w (n + k) old e ≤ maxLen := grownCap_le_maxLen w (n + k) old e (by unfold maxLen; omega)
    refine ⟨⟨hlen, .inr ⟨w.heap.size, _, _, rfl, hbase, heap_alloc_new w.drew _, hge, hcm, ?_, ?_⟩⟩, ⟨rfl, rfl, rfl, by simp, fun i hi _ => Below.heap_alloc w.drew _ i hi⟩⟩
    · have := hown.1
      rw [zeroCells_one z _ hc, zeroCells_one z _ hc]
      simp only [Array.size_append, List.size_toArray, Array.size_replicate]
      omega
    · rw [zeroCells_one z _ hc, zeroCells_one z _ hc, ← hlen]
      simp only [Array.toList_append, Array.toList_replicate]
      exact List.take_left
  rcases hown.2 with ⟨rfl, rfl⟩ | ⟨g, cap, cur, rfl, hbg, hg, hnc, hcm, hcs, htake⟩
  · have hx : xs = [] := List.eq_nil_of_length_eq_zero (by simpa using hown.1)
    subst hx
    have hr := Go.Lib.run_append_nil_zeros (P := P) w t tn ty e i z kq kn ht htn hi hz k h0 (by omega) (by omega) (by omega)
    have hgr := grown 0 (Value.ownBlock (.slice none 0 0))
    simp only [Nat.zero_add, List.nil_append, Array.empty_append] at hgr ⊢
    exact ⟨_, _, hr, hgr.1, hgr.2⟩
  · by_cases hroom : n + k ≤ cap
    · have hr := run_append_room_zeros (P := P) w t tn ty e i z kq kn ht htn hi hz hc hsz hz1 g n cap cur hg k h0 (by omega) (by omega) hroom (by omega)
      refine ⟨_, _, hr, ⟨hlen, .inr ⟨g, cap, _, rfl, hbg, setRow_heap w g cur _ e _ hg, hroom, hcm, ?_, ?_⟩⟩, ⟨rfl, rfl, rfl, by simp, fun k _ hk => setRow_other w g k _ (fun e => hk (by simp [Value.ownBlock, e]))⟩⟩
      · simp only [List.size_toArray, List.length_append, List.length_take, List.length_drop, Array.length_toList, List.length_replicate]
        omega
      · rw [show n * 1 = n from Nat.mul_one n] at htake
        rw [htake, ← hlen]
        exact List.take_left
    · have holds : ∀ j u, xs[j]? = some u → w.cell? ((⟨g, 0, none⟩ : Addr).add j) = some u := hown.cells (g := g) rfl
      have hf := run_firstCells_some (P := P) w.drew i.size n ⟨g, 0, none⟩ n cap xs (by rw [hsz]; exact hown.1) (by simpa using holds)
      have hr := Go.Lib.run_append_grow_zeros (P := P) w t tn ty e i z kq kn ht htn hi hz (some ⟨g, 0, none⟩) n cap xs hf k h0 (by omega) (by omega) (by omega) (by omega) (growslice_fits (by omega) (by omega))
      have hgr := grown cap (Value.ownBlock (.slice (some ⟨g, 0, none⟩) n cap))
      exact ⟨_, _, hr, hgr.1, hgr.2⟩

theorem wpList_append_zeros {P : Program} (w : World) {ops : Array Oper} {rest : List Oper} {o : Oper} {a : Act} {Q : Exit → Act → World → Prop} (hgd : o.guard = none) (s x : Operand) (t tn : TypeId)
    (ho : o.op = .call { callee := .builtin .append, args := #[s, x], argTypes := #[t, tn] }) (base : Nat) (e : TypeId) (z : Value) (bytes : Nat) (kn : IntKind) (ht : P.underlying t = some (.slice e)) (htn : P.underlying tn = some (.int kn))
    (hi : (P.info? e).map (fun i => (i.zero, i.size, i.bytes)) = some (some z, 1, bytes)) (hc : z.cells = #[z]) (hz1 : z.oneCell' = true)
    (v : Value) (n : Nat) (xs : List Value) (hs : a.eval s = v) (hown : w.ownsRow base e 1 v n xs) (kq : IntKind) (k : Nat) (hx : a.eval x = .int kq k) (h0 : 0 < k) (hn : n + k ≤ 1000000000) (hb : bytes ≤ 1000) (hbase : base ≤ w.heap.size)
    (K : ∀ v' w', w'.ownsRow base e 1 v' (n + k) (xs ++ List.replicate k z) → Fr (fun j => v.ownBlock = some j) w w' → wpList P ops Q rest (a.put o.dst v') w') : wpList P ops Q (o :: rest) a w := by
  obtain ⟨v', w', hr, h1, h2⟩ := run_append_own_zeros (P := P) w base t tn o.type e z bytes kq kn ht htn hi hc hz1 v n xs hown k h0 hn hb hbase
  exact Go.Lib.wpList_append_run w hgd s x t tn ho v (.int kq k) hs hx v' w' hr (K v' w' h1 ((Fr.refl _ _).grown h2 fun k _ hk => hk))

/-- The same at a step of a region that draws. -/
theorem step_append_zeros {P : Program} {ops : Array Oper} {o : Oper} {a : Act} {w : World} {K : Act → World → Prop} {Q : Exit → Act → World → Prop} {E : Prop} (hgd : o.guard = none) (s x : Operand) (t tn : TypeId)
    (ho : o.op = .call { callee := .builtin .append, args := #[s, x], argTypes := #[t, tn] }) (base : Nat) (e : TypeId) (z : Value) (bytes : Nat) (kn : IntKind) (ht : P.underlying t = some (.slice e)) (htn : P.underlying tn = some (.int kn))
    (hi : (P.info? e).map (fun i => (i.zero, i.size, i.bytes)) = some (some z, 1, bytes)) (hc : z.cells = #[z]) (hz1 : z.oneCell' = true)
    (v : Value) (n : Nat) (xs : List Value) (hs : a.eval s = v) (hown : w.ownsRow base e 1 v n xs) (kq : IntKind) (k : Nat) (hx : a.eval x = .int kq k) (h0 : 0 < k) (hn : n + k ≤ 1000000000) (hb : bytes ≤ 1000) (hbase : base ≤ w.heap.size)
    (hK : ∀ v' w', w'.ownsRow base e 1 v' (n + k) (xs ++ List.replicate k z) → Fr (fun j => v.ownBlock = some j) w w' → K (a.put o.dst v') w') :
    if Region.wanted o (yielded ops a.tmps) = true then Oper.wp P o a w K Q else E := by
  have hw : Region.wanted o (yielded ops a.tmps) = true := by simp [Region.wanted, hgd]
  rw [if_pos hw]
  obtain ⟨v', w', hr, h1, h2⟩ := run_append_own_zeros (P := P) w base t tn o.type e z bytes kq kn ht htn hi hc hz1 v n xs hown k h0 hn hb hbase
  exact Go.Lib.wp_append_run w s x t tn ho v (.int kq k) hs hx v' w' hr (hK v' w' h1 ((Fr.refl _ _).grown h2 fun k _ hk => hk))

/-- 'append(s, xs...)' at a step of a region that draws: a slice that reads as a list. -/
theorem step_append_sl {P : Program} {ops : Array Oper} {o : Oper} {a : Act} {w0 : World} {K : Act → World → Prop} {Q : Exit → Act → World → Prop} {E : Prop} (hg : o.guard = none) (s x : Operand) (t : TypeId)
    (hop : o.op = Op.call { callee := Callee.builtin Builtin.append, args := #[s, x], argTypes := #[t, t] }) (base : Nat) (e : TypeId) (z : Value) (bytes : Nat)
    (ht : P.underlying t = some (.slice e)) (hi : (P.info? e).map (fun i => (i.zero, i.size, i.bytes)) = some (some z, 1, bytes)) (hcz : z.cells.size = 1) (v : Value) (n : Nat) (xs : List Value)
    (hs : a.eval s = v) (hown : w0.ownsRow base e 1 v n xs) (F : Nat → Prop) (vx : Value) (news : List Value) (hx : a.eval x = vx) (hsl : SlAt F w0 vx news) (h1 : ∀ u, u ∈ news → u.oneCell' = true)
    (hn : n + news.length ≤ 1000000000) (hb : bytes ≤ 1000) (hbase : base ≤ w0.heap.size)
    (hK : ∀ v' w', w'.ownsRow base e 1 v' (n + news.length) (xs ++ news) → Fr (fun j => v.ownBlock = some j) w0 w' → K (a.put o.dst v') w') :
    if Region.wanted o (yielded ops a.tmps) = true then Oper.wp P o a w0 K Q else E := by
  have hw : Region.wanted o (yielded ops a.tmps) = true := by simp [Region.wanted, hg]
  rw [if_pos hw]
  obtain ⟨i0, hi, hz0, hz1, hz2⟩ := info_parts hi
  obtain ⟨p, cap, rfl, h0, hc⟩ := hsl
  have fin : ∀ v' w', w'.ownsRow base e 1 v' (n + news.length) (xs ++ news) → w0.grownBy w' v.ownBlock → (v' = Value.slice none 0 0 ↔ v = Value.slice none 0 0 ∧ news.length = 0) → K (a.put o.dst v') w' := by
    intro v' w' h1 h2 _
    exact hK v' w' h1 ((Fr.refl _ _).grown h2 fun k _ hk => hk)
  have bnd : (n + news.length) * bytes ≤ 140737488355328 := Nat.le_trans (Nat.mul_le_mul hn hb) (by decide)
  by_cases hne : news = []
  · subst hne
    cases p with
    | none =>
      obtain rfl := h0.1 rfl
      have hrun := run_append_owned_none (P := P) (w := w0) base t o.type e i0 1 ht hi v n xs hown
      unfold Oper.wp
      simp [execOp, hop, resolve, invoke, builtin, hs, hx, hrun, Result.andThen]
      exact fin v w0 (by simpa using hown) ⟨rfl, rfl, rfl, Nat.le_refl _, fun _ _ _ => rfl⟩ (by simp)
    | some ad =>
      exact wp_append_own w0 s x t hop base e i0 z 1 bytes ht hi hz0 hz1 hz2 hcz (by decide) v n xs hs hown ad 0 cap [] hx rfl (by simp) (by simp) (by unfold maxLen; omega) bnd hbase fin
  · obtain ⟨b, o', rfl, _, _, hcc⟩ := hc hne
    refine wp_append_own w0 s x t hop base e i0 z 1 bytes ht hi hz0 hz1 hz2 hcz (by decide) v n xs hs hown ⟨b, o', none⟩ news.length cap news hx (by simp) ?_ h1 (by unfold maxLen; omega) bnd hbase fin
    intro j u hj
    have hlt : j < news.length := by
      rcases Nat.lt_or_ge j news.length with h | h
      · exact h
      · rw [List.getElem?_eq_none h] at hj; simp at hj
    rw [Addr.add_zero_spot, hcc j hlt]
    rw [List.getElem?_eq_getElem hlt] at hj
    exact hj
end Go.Proofs.YtamdmkjejpkbiaaGreatDoor
