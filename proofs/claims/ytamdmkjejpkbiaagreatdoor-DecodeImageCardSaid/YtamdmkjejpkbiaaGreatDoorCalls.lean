/- Law 12: symbols that are taken, as an argument; are they few and short? -/
import Derived.Test.YtamdmkjejpkbiaaGreatDoorAwake
import Derived.Test.YtamdmkjejpkbiaaGreatDoorArgs
namespace Go.Proofs.YtamdmkjejpkbiaaGreatDoor
open Go Go.RowKit Go.Proofs Go.ChangeShapes Go.WideShapes Go.Deep

theorem list_of {α : Type} {P : Nat → α → Prop} (n : Nat) (h : ∀ i, i < n → ∃ x, P i x) : ∃ l : List α, l.length = n ∧ ∀ (i : Nat) (hi : i < l.length), P i l[i] := by
  induction n with
  | zero => exact ⟨[], rfl, fun i hi => by simp at hi⟩
  | succ n ih =>
    obtain ⟨l, hl, h1⟩ := ih fun i hi => h i (by omega)
    obtain ⟨x, hx⟩ := h n (Nat.lt_succ_self n)
    refine ⟨l ++ [x], by simp [hl], fun i hi => ?_⟩
    by_cases e : i < l.length
    · rw [List.getElem_append_left e]; exact h1 i e
    · have : i = l.length := by simp at hi; omega
      subst this
      rw [List.getElem_append_right (Nat.le_refl _)]
      simpa [hl] using hx

/-- Bytes that were read. -/
theorem args_bytes {H : Type} {enc : TypeId × Value → H} {w : World} {base : Nat} {spare : Nat → Bool} {held : Bool} {fuel : Nat} {cs : List Value} {x : DataW H × List MemPlace} (h : DataW.trod enc Tryz.prog w base spare held fuel 28 cs = some x) :
    ∃ (v : Value) (l : List UInt8), cs = [v] ∧ SlAt AllF w v (bytesV l) ∧ l.length ≤ maxLen := by
  obtain ⟨v, zs, rfl, hs, hl, hw⟩ := args_ints Tryz.underlying28 Tryz.underlying5 (by kernel_rfl) h
  obtain ⟨l, e, hl'⟩ := bytes_of zs hw
  exact ⟨v, l, rfl, by rw [e] at hs; exact hs, by omega⟩

/-- A slice of symbols: each one's number and its data. -/
def CsAt (w : World) (v : Value) (cs : List (Nat × List UInt8)) : Prop :=
  ∃ p cap, v = .slice p cs.length cap ∧ cs.length ≤ maxLen ∧ (0 < cs.length → ∃ b o, p = some ⟨b, o, none⟩ ∧ ∀ j (hj : j < cs.length), cs[j].1 < 4294967296 ∧ cs[j].2.length ≤ maxLen ∧ w.cell? ⟨b, o + j * 2, none⟩ = some (.int .u32 cs[j].1) ∧
    ∃ pd cd, w.cell? ⟨b, o + j * 2 + 1, none⟩ = some (.slice pd cs[j].2.length cd) ∧ SlAt AllF w (.slice pd cs[j].2.length cd) (bytesV cs[j].2))
theorem CsAt.frN {w w' : World} {v : Value} {cs : List (Nat × List UInt8)} (h : CsAt w v cs) (hf : Fr NoF w w') : CsAt w' v cs := by
  obtain ⟨p, cap, h1, h2, h3⟩ := h
  refine ⟨p, cap, h1, h2, fun h0 => ?_⟩
  obtain ⟨b, o, e, h⟩ := h3 h0
  refine ⟨b, o, e, fun j hj => ?_⟩
  obtain ⟨a1, a2, a3, pd, cd, a4, a5⟩ := h j hj
  exact ⟨a1, a2, hf.cellN a3, pd, cd, hf.cellN a4, a5.frN hf⟩

/-- Symbols that were read. -/
theorem args_calls {H : Type} {enc : TypeId × Value → H} {w : World} {base : Nat} {spare : Nat → Bool} {held : Bool} {fuel : Nat} {cs : List Value} {x : DataW H × List MemPlace} (h : DataW.trod enc Tryz.prog w base spare held fuel 25 cs = some x) :
    ∃ (v : Value) (l : List (Nat × List UInt8)), cs = [v] ∧ CsAt w v l := by
  obtain ⟨p, len, cap, rfl, hl, hp, hc⟩ := args_structs Tryz.underlying25 Tryz.underlying36 (by kernel_rfl) (by kernel_rfl) (by decide) h
  by_cases h0 : 0 < len
  · obtain ⟨b, o, rfl, hb, hc⟩ := hc h0
    obtain ⟨l, hl', h2⟩ := list_of (α := Nat × List UInt8) (P := fun j c => c.1 < 4294967296 ∧ c.2.length ≤ maxLen ∧ w.cell? ⟨b, o + j * 2, none⟩ = some (.int .u32 c.1) ∧
      ∃ pd cd, w.cell? ⟨b, o + j * 2 + 1, none⟩ = some (.slice pd c.2.length cd) ∧ SlAt AllF w (.slice pd c.2.length cd) (bytesV c.2)) len fun i hi => by
      obtain ⟨n, hn⟩ := hc i hi
      obtain ⟨v0, y0, hc0, ht0⟩ := hn 0 _ rfl
      obtain ⟨v1, y1, hc1, ht1⟩ := hn 1 _ rfl
      obtain ⟨i0, e0, _, hw⟩ := DataW.trod_int (k := .u32) Tryz.underlying22 ht0
      obtain ⟨v, l, e1, hs, hl⟩ := args_bytes ht1
      obtain rfl : v0 = .int .u32 i0 := by simpa using e0
      obtain rfl : v1 = v := by simpa using e1
      obtain ⟨ids, e2, e3, e4⟩ := u32s_of [i0] (fun n hn => by simp at hn; subst hn; exact hw)
      obtain ⟨q, cq, e5⟩ := hs.shape
      subst e5
      match ids, e3 with
      | [q0], _ =>
        have e2 : i0 = (q0 : Int) := by simpa using e2
        subst e2
        rw [bytesV_length] at hc1 hs
        exact ⟨(q0, l), e4 q0 (by simp), hl, hc0, q, cq, hc1, hs⟩
    refine ⟨_, l, rfl, _, cap, by rw [hl'], by omega, fun _ => ⟨b, o, rfl, h2⟩⟩
  · have : len = 0 := by omega
    subst this
    exact ⟨_, [], rfl, p, cap, rfl, Nat.zero_le _, fun h => absurd h (Nat.lt_irrefl 0)⟩
end Go.Proofs.YtamdmkjejpkbiaaGreatDoor
