/- Things in memory that lie apart, side by side. No function of the program. -/
import Derived.Test.YtamdmkjejpkbiaaGreatDoorMem
namespace Go.Proofs.YtamdmkjejpkbiaaGreatDoor
open Go Go.RowKit

/-- Any block. -/
def AllF : Nat → Prop := fun _ => True
/-- A thing in memory, within a footprint. -/
abbrev Hp := World → (Nat → Prop) → Prop
/-- It stays where its footprint stays; it lies in memory; it may be said of a larger footprint. -/
structure Stb (R : Hp) : Prop where
  fr : ∀ {w w' : World} {F G : Nat → Prop}, R w F → Fr G w w' → Apart F G → R w' F
  inF : ∀ {w : World} {F : Nat → Prop}, R w F → InF F w
  mono : ∀ {w : World} {F G : Nat → Prop}, R w F → (∀ k, F k → G k) → InF G w → R w G

/-- Two things side by side. -/
def Sep (R S : Hp) : Hp := fun w F => InF F w ∧ ∃ F1 F2, (∀ k, F1 k → F k) ∧ (∀ k, F2 k → F k) ∧ Apart F1 F2 ∧ R w F1 ∧ S w F2

section
variable {R R' S S' T : Hp} {w w' w1 : World} {F G : Nat → Prop}
theorem Stb.frN (h : Stb R) (hr : R w F) (hf : Fr NoF w w') : R w' F := h.fr hr hf fun _ _ g => g
theorem Stb.sep (h : Stb R) (k : Stb S) : Stb (Sep R S) where
  fr := fun ⟨hi, F1, F2, h1, h2, ha, hr, hs⟩ hf hap => ⟨hi.le hf.size, F1, F2, h1, h2, ha, h.fr hr hf (fun i hi => hap i (h1 i hi)), k.fr hs hf (fun i hi => hap i (h2 i hi))⟩
  inF := fun h => h.1
  mono := fun ⟨_, F1, F2, h1, h2, ha, hr, hs⟩ hm hg => ⟨hg, F1, F2, fun i hi => hm i (h1 i hi), fun i hi => hm i (h2 i hi), ha, hr, hs⟩
theorem Sep.swap (h : Sep R S w F) : Sep S R w F := by
  obtain ⟨hi, F1, F2, h1, h2, ha, hr, hs⟩ := h
  exact ⟨hi, F2, F1, h2, h1, ha.symm, hs, hr⟩
theorem Sep.left (h : Sep R S w F) : ∃ F1, (∀ k, F1 k → F k) ∧ R w F1 := by
  obtain ⟨_, F1, _, h1, _, _, hr, _⟩ := h
  exact ⟨F1, h1, hr⟩
theorem Sep.right (h : Sep R S w F) : ∃ F1, (∀ k, F1 k → F k) ∧ S w F1 := h.swap.left
/-- What turns the first thing alone. -/
theorem Sep.turn (h : Sep R S w F) (hS : Stb S) (hg : gl ≤ w.heap.size) : ∃ F1, R w F1 ∧ (∀ k, F1 k → F k) ∧ ∀ (R' : Hp) w', Fr F1 w w' → R' w' (upF F1 w w') → Fr F w w' ∧ Sep R' S w' (upF F w w') := by
  obtain ⟨hi, F1, F2, h1, h2, ha, hr, hs⟩ := h
  refine ⟨F1, hr, h1, fun R' w' hf hr' => ⟨hf.mono fun k _ hk => h1 k hk, hi.up hg hf.size, _, F2, fun k hk => ?_, fun k hk => .inl (h2 k hk), ha.upL (w := w) (hS.inF hs), hr', hS.fr hs hf ha.symm⟩⟩
  rcases hk with hk | hk
  · exact .inl (h1 k hk)
  · exact .inr hk
/-- A new thing beside. -/
theorem Sep.beside (h : R w F) (hR : Stb R) (hg : gl ≤ w.heap.size) (hf : Fr NoF w w') (hs : S w' (upF NoF w w')) : Sep R S w' (upF F w w') := by
  have hi := hR.inF h
  refine ⟨hi.up hg hf.size, F, upF NoF w w', fun k hk => .inl hk, fun k hk => ?_, fun k hk hn => ?_, hR.frN h hf, hs⟩
  · rcases hk with hk | hk
    · exact hk.elim
    · exact .inr hk
  · have := hi k hk
    rcases hn with hn | hn
    · exact hn
    · omega
theorem Sep.map (h : Sep R S w F) (hr : ∀ F, R w F → R' w F) (hs : ∀ F, S w F → S' w F) : Sep R' S' w F := by
  obtain ⟨hi, F1, F2, h1, h2, ha, h3, h4⟩ := h
  exact ⟨hi, F1, F2, h1, h2, ha, hr _ h3, hs _ h4⟩

/-- All that is there is new since w0; nothing old has turned. -/
structure New (w0 : World) (R : Hp) (w : World) : Prop where
  fr : Fr NoF w0 w
  own : R w (upF NoF w0 w)
  gl : gl ≤ w0.heap.size
theorem upNo' {k : Nat} (h : upF NoF w w1 k) : w.heap.size ≤ k ∧ k < w1.heap.size := h.elim (fun f => f.elim) id
theorem New.g (h : New w R w1) : Go.Proofs.YtamdmkjejpkbiaaGreatDoor.gl ≤ w1.heap.size := Nat.le_trans h.gl h.fr.size
theorem New.frN (h : New w R w1) (hR : Stb R) (hf : Fr NoF w1 w') : New w R w' := by
  refine ⟨h.fr.transN hf, hR.mono (hR.frN h.own hf) (fun k hk => ?_) ((InF.no w).up h.gl (h.fr.transN hf).size), h.gl⟩
  have := upNo' hk
  have := hf.size
  exact .inr ⟨by omega, by omega⟩
/-- What turns the thing turns nothing old. -/
theorem New.turn (h : New w R w1) (hR' : Stb R') (hf : Fr (upF NoF w w1) w1 w') (hr : R' w' (upF (upF NoF w w1) w1 w')) : New w R' w' := by
  have hfr : Fr NoF w w' := h.fr.trans hf fun i hi hk => by have := upNo' hk; omega
  refine ⟨hfr, hR'.mono hr (fun k hk => ?_) ((InF.no w).up h.gl hfr.size), h.gl⟩
  have := h.fr.size
  have := hf.size
  rcases hk with hk | hk
  · have := upNo' hk
    exact .inr ⟨by omega, by omega⟩
  · exact .inr ⟨by omega, by omega⟩
theorem New.one (hf : Fr NoF w w') (hg : Go.Proofs.YtamdmkjejpkbiaaGreatDoor.gl ≤ w.heap.size) (hr : R w' (upF NoF w w')) : New w R w' := ⟨hf, hr, hg⟩
/-- One more thing. -/
theorem New.beside (h : New w R w1) (hR : Stb R) (hS : Stb S) (hf : Fr NoF w1 w') (hs : S w' (upF NoF w1 w')) : New w (Sep R S) w' :=
  h.turn (hR.sep hS) hf.no (Sep.beside h.own hR h.g hf hs)
/-- The first of two things turns. -/
theorem New.first (h : New w (Sep R S) w1) (hS : Stb S) : ∃ F1, R w1 F1 ∧ (∀ k, F1 k → w.heap.size ≤ k) ∧ ∀ (R' : Hp), Stb R' → ∀ w', Fr F1 w1 w' → R' w' (upF F1 w1 w') → New w (Sep R' S) w' := by
  obtain ⟨F1, h1, h2, h3⟩ := h.own.turn hS h.g
  refine ⟨F1, h1, fun k hk => (upNo' (h2 k hk)).1, fun R' hR' w' hf hr => ?_⟩
  obtain ⟨a, b⟩ := h3 R' w' hf hr
  exact h.turn (hR'.sep hS) a b
/-- The first of two things turns, at a world in which more has been made. -/
theorem New.first2 (h : New w (Sep R S) w1) (hR : Stb R) (hS : Stb S) {w2 : World} (h2 : Fr NoF w1 w2) : ∃ F1, R w2 F1 ∧ (∀ k, F1 k → w.heap.size ≤ k ∧ k < w1.heap.size) ∧ ∀ (R' : Hp), Stb R' → ∀ w', Fr F1 w2 w' → R' w' (upF F1 w2 w') → New w (Sep R' S) w' ∧ Fr (upF NoF w w1) w2 w' := by
  have h' : Sep R S w2 (upF NoF w w1) := (hR.sep hS).frN h.own h2
  have hg2 : Go.Proofs.YtamdmkjejpkbiaaGreatDoor.gl ≤ w2.heap.size := Nat.le_trans h.g h2.size
  obtain ⟨F1, k1, k2, k3⟩ := h'.turn hS hg2
  refine ⟨F1, k1, fun k hk => upNo' (k2 k hk), fun R' hR' w' hf hr => ?_⟩
  obtain ⟨a, b⟩ := k3 R' w' hf hr
  have hfr : Fr NoF w w' := (h.fr.transN h2).trans a fun i hi hk => by have := upNo' hk; omega
  have s1 := h.fr.size
  have s2 := h2.size
  have s3 := hf.size
  refine ⟨⟨hfr, (hR'.sep hS).mono b (fun k hk => ?_) ((InF.no w).up h.gl hfr.size), h.gl⟩, a⟩
  rcases hk with hk | hk
  · have := upNo' hk
    exact .inr ⟨by omega, by omega⟩
  · exact .inr ⟨by omega, by omega⟩
/-- New since a world that is new since another one. -/
theorem New.base {w0 : World} (h : New w R w1) (hR : Stb R) (hf : Fr NoF w0 w) (hg : Go.Proofs.YtamdmkjejpkbiaaGreatDoor.gl ≤ w0.heap.size) : New w0 R w1 := by
  have hfr : Fr NoF w0 w1 := hf.transN h.fr
  refine ⟨hfr, hR.mono h.own (fun k hk => ?_) ((InF.no w0).up hg hfr.size), hg⟩
  have := upNo' hk
  have := hf.size
  exact .inr ⟨by omega, by omega⟩
theorem New.map (h : New w R w1) (hm : ∀ F, R w1 F → R' w1 F) : New w R' w1 := ⟨h.fr, hm _ h.own, h.gl⟩
theorem New.swap (h : New w (Sep R S) w1) : New w (Sep S R) w1 := h.map fun _ => Sep.swap
end
end Go.Proofs.YtamdmkjejpkbiaaGreatDoor
