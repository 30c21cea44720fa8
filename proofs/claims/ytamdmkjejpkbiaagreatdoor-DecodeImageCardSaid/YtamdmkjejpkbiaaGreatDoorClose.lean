/- How a law's statement is closed: what the rows' list gives, arguments opened, the answer. -/
import Derived.Test.YtamdmkjejpkbiaaGreatDoorCards
import Derived.Test.YtamdmkjejpkbiaaGreatDoorTie
import Derived.Test.YtamdmkjejpkbiaaGreatDoorCalls
import Derived.ProofKit
import Derived.OpenShut
import Derived.Deep.DeepHandedRow
import Derived.Lib.LaidTab
import Derived.Carry
import Derived.Lib.SmallJoins
namespace Go.Proofs.YtamdmkjejpkbiaaGreatDoor
open Go.ChangeShapes Go.WideShapes Go.ChangeAt Go.RowKit

theorem laidOut : laidOutB Tryz.prog = true := by kernel_rfl
theorem own : ownKnob Tryz.prog.godebug = none := by kernel_rfl
theorem gTab : Tryz.prog.globalNamed "math/bits.deBruijn64tab" = some 0 := by kernel_rfl
theorem gTabType : (Tryz.prog.globals[0]?).map (·.type) = some 143 := by kernel_rfl
theorem cellsTab : Tryz.prog.cellsOf 143 = 64 := by kernel_rfl
theorem cellsU8 : Tryz.prog.cellsOf 5 = 1 := by kernel_rfl

/-- What the rows' list gives: the table. -/
theorem env_laid {W : World} (h : laidMetH Tryz.prog [("math/bits.deBruijn64tab", Rows.laid_math_bits_deBruijn64tab)] W) : Env W := by
  have ht : Lib.TabIs Tryz.prog W "math/bits.deBruijn64tab" .u8 (Lib.deBruijn64tab.map fun (n : Nat) => (n : Int)) := Lib.tabIs_of_head (rest := []) gTab gTabType Tryz.underlying143 Tryz.underlying5 cellsU8 cellsTab h
  have hc : ∀ j, j < Lib.deBruijn64tab.length → W.cell? ⟨0, j, none⟩ = some (.int .u8 (Lib.deBruijn64tab.getD j 0)) := fun j hj => by
    have := ht.cell gTab j (by simpa using hj)
    rw [this]
    simp [List.getD, hj]
  refine ⟨?_, hc⟩
  have h0 := hc 0 (by decide)
  have := World.block_lt_of_cell? W _ h0
  unfold gl
  omega

/-- Arguments read on, where no old block has turned. -/
theorem trodAll_stays {H : Type} {enc : TypeId × Value → H} {W W' : World} {base : Nat} {sp : Nat → Bool} : ∀ {ts : List TypeId} {vs : List Value} {ds : List (DataW H)} {ps : List MemPlace}, (∀ t ∈ ts, Tryz.prog.readableRec t = true ∧ t < Tryz.prog.types.size) →
    DataW.TrodAll enc Tryz.prog W base (fun _ => true) true ts vs ds ps → (∀ p ∈ ps, W.sameAt W' p) → (∀ p ∈ ps, sp p.block = true) → DataW.TrodAll enc Tryz.prog W' base sp true ts vs ds ps
  | [], _, _, _, _, h, _, _ => by
    obtain ⟨rfl, rfl, rfl⟩ := trodAll_nil h
    exact trodAll_mk0
  | t :: ts, _, _, _, ht, h, hsame, hs => by
    obtain ⟨v, vs1, d, ds1, a, b, rfl, rfl, rfl, h1, h2⟩ := trodAll_cons h
    have h1' := WideElems.Trod_stays laidOut (ht t (by simp)).1 (ht t (by simp)).2 h1 (fun p hp => hsame p (by simp [hp])) (fun p hp => hs p (by simp [hp]))
    have h2' := trodAll_stays (fun t' h' => ht t' (by simp [h'])) h2 (fun p hp => hsame p (by simp [hp])) (fun p hp => hs p (by simp [hp]))
    exact ⟨a, b, h1', h2', rfl⟩

set_option maxRecDepth 100000 in
/-- A law's answer: true, and its arguments read as they did. -/
theorem law_post {H : Type} {enc : TypeId × Value → H} {f : Func} {s : ChangeSpec} {W W' : World} {args : Array Value} {ds gs : List (DataW H)} {before : List MemPlace}
    (hW : DataW.Whole enc Tryz.prog f.params.toList s.vars false W args.toList ds gs before) (hv : s.vars = []) (hp : ∀ t ∈ f.params.toList, Tryz.prog.readableRec t = true ∧ t < Tryz.prog.types.size)
    (hr : f.resultTypes = #[4]) (hres : (s.fn H (ds ++ [])).results = [.lit (.bool true)]) (hargs : (s.fn H (ds ++ [])).args = ds) (hvs : (s.fn H (ds ++ [])).vars = []) (hg : Fr NoF W W') :
    s.post enc Tryz.prog f false true false false W args (.bool true) W' := by
  have hW' := hW
  obtain ⟨p, q, hA, hV, rfl, hfz, hnd⟩ := hW
  rw [hv] at hV
  obtain ⟨rfl, rfl⟩ := trodVars_none hV
  have hlt : ∀ x ∈ p ++ [], x.block < W.heap.size := fun x hx => by simpa using hW'.lt x hx
  have hb := hg.belowN
  have hA' : ∀ sp : Nat → Bool, (∀ x ∈ p ++ [], sp x.block = true) → DataW.TrodAll enc Tryz.prog W' 0 sp true f.params.toList args.toList (s.fn H (ds ++ [])).args p := fun sp hs => by
    rw [hargs]
    exact trodAll_stays hp hA (fun x hx => hb.same (hlt x (by simp [hx]))) (fun x hx => hs x (by simp [hx]))
  have hV' : ∀ sp : Nat → Bool, DataW.TrodVars enc Tryz.prog W' sp s.vars (s.fn H (ds ++ [])).vars [] := fun sp => by
    rw [hv, hvs]; rfl
  have hR' : ∀ (b : Nat) (sp : Nat → Bool) (hd : Bool), DataW.TrodAll enc Tryz.prog W' b sp hd f.resultTypes.toList ((Value.bool true).resultList f.resultTypes.size) (s.fn H (ds ++ [])).results [] := fun b sp hd => by
    rw [hr, hres]
    exact trodAll_cons_mk (shut_bool Tryz.underlying4 _) trodAll_mk0
  have hold : ∀ x ∈ p ++ [], (fun b => decide (b < W.heap.size)) x.block = true := fun x hx => by simpa using hlt x hx
  refine ⟨ds, [], p ++ [], [], p, [], hW', hR' _ _ _, hA' _ hold, hV' _, hb.frame _, fun _ => ?_⟩
  have hok : Value.okWide Tryz.prog W' .any 0 4 (.bool true) := okWide_bool_mk (P := Tryz.prog) (W' := W') (t := 4) Tryz.underlying4 true
  refine ⟨ok_one hr rfl hok, _, _, ([] ++ p) ++ [], ⟨[] ++ p, [], trodAll_append (hA' _ (fun _ _ => rfl)) (hR' _ _ _), hV' _, rfl, ?_, ?_⟩, ?_⟩
  · intro b off hp'
    rw [hb.frozen (hlt _ (by simpa using hp'))]
    exact hfz b off (by simpa using hp')
  · intro ha; exact absurd ha (by simp)
  · intro x hx _
    simpa using hx

/-- The table's cells. -/
def tabCells : Array Value := (Lib.deBruijn64tab.map fun (n : Nat) => Value.int .u8 n).toArray
/-- A world for the witness: the settled one, the table holding what its initialiser lays. -/
noncomputable def laidWorld (os : Os) : World :=
  { World.holding Tryz.prog os ⟨#[], #[], []⟩ with heap := (World.holding Tryz.prog os ⟨#[], #[], []⟩).heap.modify 0 fun
      | .cells _ t frozen => .cells tabCells t frozen
      | o => o }


/-- Parameters' types can be read. -/
theorem pars_ok {l : List TypeId} (h : (l.all fun t => Tryz.prog.readableRec t && decide (t < Tryz.prog.types.size)) = true) : ∀ t ∈ l, Tryz.prog.readableRec t = true ∧ t < Tryz.prog.types.size := fun t ht => by
  have := List.all_eq_true.1 h t ht
  rw [Bool.and_eq_true, decide_eq_true_eq] at this
  exact this
theorem pars_plain {l : List TypeId} (h : (l.all fun t => !(Tryz.prog.wantsStandIn t)) = true) : ∀ t ∈ l, Tryz.prog.wantsStandIn t = false := fun t ht => by
  have := List.all_eq_true.1 h t ht
  simpa using this

section
variable {H : Type} {enc : TypeId × Value → H} {W : World} {base b0 : Nat} {spare : Nat → Bool} {held : Bool} {v : Value} {d : DataW H} {p : List MemPlace}
set_option maxRecDepth 100000 in
theorem open_bytesL (hv : Value.okWide Tryz.prog W .any b0 28 v) (h : DataW.Trod enc Tryz.prog W base spare held 28 v d p) : ∃ l : List UInt8, SlAt AllF W v (bytesV l) ∧ l.length ≤ maxLen := by
  obtain ⟨a1, len, cap, rfl⟩ := okWide_slice Tryz.underlying28 hv
  obtain ⟨fuel, hf⟩ := h
  obtain ⟨v', l, e, hs, hl⟩ := args_bytes hf
  have e : Value.slice a1 len cap = v' := by simpa [Value.cells] using e
  subst e
  exact ⟨l, hs, hl⟩
set_option maxRecDepth 100000 in
theorem open_u32L (hv : Value.okWide Tryz.prog W .any b0 43 v) (h : DataW.Trod enc Tryz.prog W base spare held 43 v d p) : ∃ l : List Nat, SlAt AllF W v (l.map fun x => Value.int .u32 (x : Nat)) ∧ l.length ≤ maxLen ∧ ∀ x ∈ l, x < 4294967296 := by
  obtain ⟨a1, len, cap, rfl⟩ := okWide_slice Tryz.underlying43 hv
  obtain ⟨fuel, hf⟩ := h
  obtain ⟨v', zs, e, hs, hl, hw⟩ := args_ints Tryz.underlying43 Tryz.underlying22 (by kernel_rfl) hf
  have e : Value.slice a1 len cap = v' := by simpa [Value.cells] using e
  subst e
  obtain ⟨l, e, hl', hb⟩ := u32s_of zs hw
  exact ⟨l, by rw [e] at hs; exact hs, by omega, hb⟩
set_option maxRecDepth 100000 in
theorem open_callsL (hv : Value.okWide Tryz.prog W .any b0 25 v) (h : DataW.Trod enc Tryz.prog W base spare held 25 v d p) : ∃ l : List (Nat × List UInt8), CsAt W v l := by
  obtain ⟨a1, len, cap, rfl⟩ := okWide_slice Tryz.underlying25 hv
  obtain ⟨fuel, hf⟩ := h
  obtain ⟨v', l, e, hs⟩ := args_calls hf
  have e : Value.slice a1 len cap = v' := by simpa [Value.cells] using e
  subst e
  exact ⟨l, hs⟩
set_option maxRecDepth 100000 in
theorem open_params (hv : Value.okWide Tryz.prog W .any b0 24 v) (h : DataW.Trod enc Tryz.prog W base spare held 24 v d p) : ∃ (s : Nat) (k q z : Int), v = .agg #[.int .u32 s, .int .i64 k, .int .i64 q, .int .i64 z] ∧ s < 4294967296 := by
  obtain ⟨v0, v1, v2, v3, y0, y1, y2, y3, n, rfl, _, _, h0, h1, h2, h3⟩ := Go.Joins.open_agg4 Tryz.underlying24 (by kernel_rfl) (by kernel_rfl) hv h
  obtain ⟨s, e0, _, hw⟩ := DataW.trod_int (k := .u32) Tryz.underlying22 h0
  obtain ⟨k, e1, _, _⟩ := DataW.trod_int (k := .i64) Tryz.underlying3 h1
  obtain ⟨q, e2, _, _⟩ := DataW.trod_int (k := .i64) Tryz.underlying3 h2
  obtain ⟨z, e3, _, _⟩ := DataW.trod_int (k := .i64) Tryz.underlying3 h3
  simp only [List.cons.injEq, and_true] at e0 e1 e2 e3
  subst e0; subst e1; subst e2; subst e3
  obtain ⟨ids, e4, e5, e6⟩ := u32s_of [s] (fun n hn => by simp at hn; subst hn; exact hw)
  match ids, e5 with
  | [q0], _ =>
    have e4 : s = (q0 : Int) := by simpa using e4
    subst e4
    exact ⟨q0, k, q, z, rfl, e6 q0 (by simp)⟩
theorem u32_nat {s : Int} (hw : (Lit.int .u32 s).wf = true) : ∃ q : Nat, s = (q : Int) ∧ q < 4294967296 := by
  obtain ⟨ids, e4, e5, e6⟩ := u32s_of [s] (fun n hn => by simp at hn; subst hn; exact hw)
  match ids, e5 with
  | [q0], _ => exact ⟨q0, by simpa using e4, e6 q0 (by simp)⟩
end
end Go.Proofs.YtamdmkjejpkbiaaGreatDoor
