/- Package sync/atomic, sync.Mutex and sync.Once, in one goroutine: what their calls do to memory. -/
import Derived.Test.YtamdmkjejpkbiaaGreatDoorProg
import Derived.Test.YtamdmkjejpkbiaaGreatDoorMem
import Derived.Conc.MuLone
import Derived.IntWalk
import Derived.Lib.Hide
import Derived.Defers
import Derived.RegionCalls
namespace Go.Proofs.YtamdmkjejpkbiaaGreatDoor
open Go Go.RowKit Go.Proofs

theorem at_store_u32 {w : World} {a : Addr} {u : Value} (y : Int) (hc : w.cell? a = some u) (hz : w.frozen? a = false) :
    Calls Tryz.prog 59 #[.pointer (some a), .int .u32 y] w fun e w' => e = .returned (.tuple #[]) ∧ w' = w.setCell a (.int .u32 y) := by
  have hst := run_call_store (P := Tryz.prog) Tryz.func79 (by kernel_rfl) (by kernel_rfl) (by kernel_rfl) (by kernel_rfl) (k := .u32) (y := y) hc hz
  go_enter Tryz.func59, Tryz.ntmps59
  go_wp2
  go_end0
  exact ⟨rfl, rfl⟩

theorem at_load_u32 {w : World} {a : Addr} {x : Int} (hc : w.cell? a = some (.int .u32 x)) :
    Calls Tryz.prog 63 #[.pointer (some a)] w fun e w' => e = .returned (.int .u32 x) ∧ w = w' := by
  have hl := run_call_load (P := Tryz.prog) Tryz.func73 (by kernel_rfl) (by kernel_rfl) (by kernel_rfl) .u32 (by kernel_rfl) hc
  go_enter Tryz.func63, Tryz.ntmps63
  go_wp2
  go_ret
  exact ⟨rfl, rfl⟩

set_option maxRecDepth 100000 in
/-- CompareAndSwap(0, 1): what is 0 becomes 1. -/
theorem at_cas01_u32 {w : World} {a : Addr} {x : Nat} (hc : w.cell? a = some (.int .u32 x)) (hz : w.frozen? a = false) :
    Calls Tryz.prog 62 #[.pointer (some a), .int .u32 0, .int .u32 1] w fun e w' => e = .returned (.bool (x == 0)) ∧ w' = if x = 0 then w.setCell a (.int .u32 1) else w := by
  by_cases h0 : x = 0
  · subst h0
    have hc : w.cell? a = some (.int .u32 0) := hc
    have hh := run_call_cas_hit (P := Tryz.prog) Tryz.func80 (by kernel_rfl) (by kernel_rfl) (by kernel_rfl) .u32 (by kernel_rfl) (y := 1) hc hz
    go_enter Tryz.func62, Tryz.ntmps62
    go_wp2
    go_ret
    exact ⟨rfl, by simp⟩
  · have hh := run_call_cas_miss (P := Tryz.prog) Tryz.func80 (by kernel_rfl) (by kernel_rfl) (by kernel_rfl) .u32 (by kernel_rfl) (o := 0) (y := 1) hc hz (by omega)
    have H0 := Lib.hid h0
    have e : (x == 0) = false := by simp [h0]
    rw [e, if_neg h0]
    clear h0 e
    go_enter Tryz.func62, Tryz.ntmps62
    go_wp2
    go_ret
    exact ⟨rfl, rfl⟩

theorem at_load_i64 {w : World} {a : Addr} {x : Int} (hc : w.cell? a = some (.int .i64 x)) :
    Calls Tryz.prog 28 #[.pointer (some a)] w fun e w' => e = .returned (.int .i64 x) ∧ w = w' := by
  have hl := run_call_load (P := Tryz.prog) Tryz.func51 (by kernel_rfl) (by kernel_rfl) (by kernel_rfl) .i64 (by kernel_rfl) hc
  go_enter Tryz.func28, Tryz.ntmps28
  go_wp2
  go_ret
  exact ⟨rfl, rfl⟩

theorem at_add_i64 {w : World} {a : Addr} {x : Nat} (hx : x < 1000000000) (hc : w.cell? a = some (.int .i64 x)) (hz : w.frozen? a = false) :
    Calls Tryz.prog 27 #[.pointer (some a), .int .i64 1] w fun e w' => e = .returned (.int .i64 (x + 1 : Nat)) ∧ w' = w.setCell a (.int .i64 (x + 1 : Nat)) := by
  have hl := run_call_add (P := Tryz.prog) Tryz.func50 (by kernel_rfl) (by kernel_rfl) (by kernel_rfl) .i64 (by kernel_rfl) (y := 1) (s := ((x + 1 : Nat) : Int)) hc hz (by
    have e : IntKind.i64.wrap ((x : Int) + 1) = ((x + 1 : Nat) : Int) := by rw [IntWalk.i64_in _ (by omega)]; rfl
    show Result.ok (Value.int .i64 (IntKind.i64.wrap ((x : Int) + 1))) w = _
    rw [e])
  go_enter Tryz.func27, Tryz.ntmps27
  go_wp2
  go_ret
  exact ⟨rfl, rfl⟩

theorem at_load_bool {w : World} {a : Addr} (hc : w.cell? a = some (.int .u32 0)) :
    Calls Tryz.prog 52 #[.pointer (some a)] w fun e w' => e = .returned (.bool false) ∧ w = w' := by
  have hl := run_call_load (P := Tryz.prog) Tryz.func73 (by kernel_rfl) (by kernel_rfl) (by kernel_rfl) .u32 (by kernel_rfl) hc
  go_enter Tryz.func52, Tryz.ntmps52
  go_wp2
  go_ret
  exact ⟨rfl, rfl⟩
theorem at_load_bool1 {w : World} {a : Addr} (hc : w.cell? a = some (.int .u32 1)) :
    Calls Tryz.prog 52 #[.pointer (some a)] w fun e w' => e = .returned (.bool true) ∧ w = w' := by
  have hl := run_call_load (P := Tryz.prog) Tryz.func73 (by kernel_rfl) (by kernel_rfl) (by kernel_rfl) .u32 (by kernel_rfl) hc
  go_enter Tryz.func52, Tryz.ntmps52
  go_wp2
  go_ret
  exact ⟨rfl, rfl⟩

/-- The lock's functions and types in this program. -/
abbrev Tryz.muLink : Go.Conc.Locks.MuLink := { lock := 74, unlock := 75, ilock := 85, iunlock := 86, lockSlow := 105, unlockSlow := 108, disable := 101, enable := 103, acquire := 104, relMerge := 106, cas32 := 102, add32 := 107, tMutex := 70, tIMutex := 68, tPMutex := 147, tPIMutex := 160, tPI32 := 162, tUP := 164, tNoCopy := 64, tU32 := 22 }
theorem Tryz.muLib : Go.Conc.Locks.MuLib Tryz.prog Tryz.muLink :=
  ⟨Tryz.func74, Tryz.func75, Tryz.func85, Tryz.func86, Tryz.func101, Tryz.func103, Tryz.func104, Tryz.func106, Tryz.func102, Tryz.func107,
  Tryz.underlying68, Tryz.runUnderlying68, Tryz.sizeOf68, Tryz.isAgg68, Tryz.zeroValue68, Tryz.underlying70, Tryz.runUnderlying70, Tryz.sizeOf70, Tryz.isAgg70, Tryz.zeroValue70, Tryz.underlying147, Tryz.runUnderlying147, Tryz.sizeOf147, Tryz.isAgg147, Tryz.zeroValue147, Tryz.underlying160, Tryz.runUnderlying160, Tryz.sizeOf160, Tryz.isAgg160, Tryz.zeroValue160, Tryz.underlying162, Tryz.runUnderlying162, Tryz.sizeOf162, Tryz.isAgg162, Tryz.zeroValue162, Tryz.underlying164, Tryz.runUnderlying164, Tryz.sizeOf164, Tryz.isAgg164, Tryz.zeroValue164, Tryz.underlying64, Tryz.runUnderlying64, Tryz.sizeOf64, Tryz.isAgg64, Tryz.zeroValue64, Tryz.underlying21, Tryz.runUnderlying21, Tryz.sizeOf21, Tryz.isAgg21, Tryz.zeroValue21, (by kernel_rfl)⟩

/-- The deferred Store(true) of a Once. -/
theorem store_deferred {w : World} {a : Addr} {u0 : Value} (hc : w.cell? a = some u0) (hz : w.frozen? a = false) (u : FrameMode) :
    CallsD Tryz.prog 76 #[.pointer (some a), .bool true] u w fun e u' w' => u' = u ∧ (e = .returned (.tuple #[]) ∧ w' = (w.setCell a (.int .u32 1)).drew) := by
  have hc' : w.drew.cell? a = some u0 := hc
  have hz' : w.drew.frozen? a = false := hz
  have hst := run_call_store (P := Tryz.prog) Tryz.func79 (by kernel_rfl) (by kernel_rfl) (by kernel_rfl) (by kernel_rfl) (k := .u32) (y := 1) hc' hz'
  go_enter_d Tryz.func76, Tryz.ntmps76
  go_region_calls
  all_goals (try go_wp2)
  go_end0
  exact ⟨rfl, rfl⟩

/-- What a Once's function must do: called in a world in which the Once's three cells are held, it leaves them as they are. -/
def OnceFn (fn : FuncId) (args : Array Value) (b o : Nat) (w : World) (R : World → Prop) : Prop :=
  Calls Tryz.prog fn args (w.setCell ⟨b, o + 1, none⟩ (.int .i32 1)) fun e w' => e = .returned (.tuple #[]) ∧ w'.cell? ⟨b, o, none⟩ = some (.int .u32 0) ∧ w'.cell? ⟨b, o + 1, none⟩ = some (.int .i32 1) ∧ w'.frozen? ⟨b, o, none⟩ = false ∧ w'.frozen? ⟨b, o + 1, none⟩ = false ∧
    R ((w'.setCell ⟨b, o, none⟩ (.int .u32 1)).drew.setCell ⟨b, o + 1, none⟩ (.int .i32 0))

set_option maxRecDepth 100000 in
set_option maxHeartbeats 1600000 in
theorem once_slow {w : World} {b o fn : Nat} {first cap : Array Value} {R : World → Prop} (h0 : w.cell? ⟨b, o, none⟩ = some (.int .u32 0)) (h1 : w.cell? ⟨b, o + 1, none⟩ = some (.int .i32 0)) (f1 : w.frozen? ⟨b, o + 1, none⟩ = false)
    (hcall : ∀ w, (callFunc fn (first ++ cap)).run Tryz.prog w = .ok (.enter fn (first ++ cap)) w) (hf : OnceFn fn (first ++ cap) b o w R) :
    Calls Tryz.prog 53 #[.pointer (some ⟨b, o, none⟩), .func (.func fn) first cap] w fun e w' => e = .returned (.tuple #[]) ∧ R w' := by
  have hnot : ∀ (x : Bool) (w : World), (Op.unary .not (.bool x)).run Tryz.prog w = .ok (.bool (!x)) w := fun _ _ => rfl
  go_enter_defers Tryz.func53, Tryz.ntmps53
  go_wp2_with (first
    | (go_at_call 74; refine (Go.MuLone.lock_free Tryz.muLib ⟨b, o + 1, none⟩ _ h1 f1).mono ?_; rintro e w' ⟨rfl, rfl⟩)
    | (go_at_call 52; refine (at_load_bool ((World.cell?_setCell_other _ ⟨b, o + 1, none⟩ ⟨b, o, none⟩ _ (by simp)).trans h0)).mono ?_; rintro e w' ⟨rfl, rfl⟩))
  refine hf.mono ?_
  rintro e w1 ⟨rfl, c0, c1, z0, z1, hR⟩
  go_wp2
  -- the door: two deferred calls, the last laid first
  refine leaves_cons (f := 76) (args := #[.pointer (some ⟨b, o, none⟩), .bool true]) (by simp) (by simp [go_sem]) ?_
  refine (store_deferred c0 z0 .returning).mono ?_
  rintro e u' w2 ⟨rfl, rfl, rfl⟩
  refine leaves_cons (f := 75) (args := #[.pointer (some ⟨b, o + 1, none⟩)]) (by simp [settle]) (by simp [go_sem]) ?_
  refine (Go.MuLone.unlock_deferred Tryz.muLib ⟨b, o + 1, none⟩ _ _ ?_ (by simp [z1])).mono ?_
  · rw [World.cell?_drew]
    exact (World.cell?_setCell_other _ ⟨b, o, none⟩ ⟨b, o + 1, none⟩ _ (by simp)).trans c1
  rintro e u' w3 ⟨rfl, rfl, rfl⟩
  simp [Leaves, settle, results, Tryz.results53]
  exact hR

set_option maxRecDepth 100000 in
/-- Do, not yet done. -/
theorem once_do {w : World} {b o fn : Nat} {first cap : Array Value} {R : World → Prop} (h0 : w.cell? ⟨b, o, none⟩ = some (.int .u32 0)) (h1 : w.cell? ⟨b, o + 1, none⟩ = some (.int .i32 0)) (f1 : w.frozen? ⟨b, o + 1, none⟩ = false)
    (hcall : ∀ w, (callFunc fn (first ++ cap)).run Tryz.prog w = .ok (.enter fn (first ++ cap)) w) (hf : OnceFn fn (first ++ cap) b o w R) :
    Calls Tryz.prog 30 #[.pointer (some ⟨b, o, none⟩), .func (.func fn) first cap] w fun e w' => e = .returned (.tuple #[]) ∧ R w' := by
  have hnot : ∀ (x : Bool) (w : World), (Op.unary .not (.bool x)).run Tryz.prog w = .ok (.bool (!x)) w := fun _ _ => rfl
  have hs := once_slow h0 h1 f1 hcall hf
  go_enter Tryz.func30, Tryz.ntmps30
  go_wp2_with (first
    | (go_at_call 52; refine (at_load_bool h0).mono ?_; rintro e w' ⟨rfl, rfl⟩)
    | (go_at_call 53; refine hs.mono ?_; rintro e w' ⟨rfl, hR⟩))
  go_end0
  exact ⟨rfl, hR⟩

set_option maxRecDepth 100000 in
/-- Do, done already. -/
theorem once_done {w : World} {b o : Nat} {f : Value} (h0 : w.cell? ⟨b, o, none⟩ = some (.int .u32 1)) :
    Calls Tryz.prog 30 #[.pointer (some ⟨b, o, none⟩), f] w fun e w' => e = .returned (.tuple #[]) ∧ w = w' := by
  have hnot : ∀ (x : Bool) (w : World), (Op.unary .not (.bool x)).run Tryz.prog w = .ok (.bool (!x)) w := fun _ _ => rfl
  go_enter Tryz.func30, Tryz.ntmps30
  go_wp2_with (go_at_call 52; refine (at_load_bool1 h0).mono ?_; rintro e w' ⟨rfl, rfl⟩)
  go_end0
  exact ⟨rfl, rfl⟩
end Go.Proofs.YtamdmkjejpkbiaaGreatDoor
