/- slices.Clone at three element types: a slice of the call's own that reads the same. -/
import Derived.Test.YtamdmkjejpkbiaaGreatDoorProg
import Derived.Test.YtamdmkjejpkbiaaGreatDoorMem
import Derived.IntWalk
import Derived.Lib.Hide
import Derived.Lib.SliceRun
namespace Go.Proofs.YtamdmkjejpkbiaaGreatDoor
open Go Go.RowKit Go.Proofs

theorem cinfo_u64 : (Tryz.prog.info? 31).map (fun i => (i.zero, i.size, i.bytes)) = some (some (.int .u64 0), 1, 8) := by kernel_rfl

set_option maxRecDepth 100000 in
theorem clone_u64 {w : World} {F : Nat → Prop} {v : Value} {xs : List Value} (hs : SlAt F w v xs) (h1 : ∀ x, x ∈ xs → x.oneCell' = true) (hbig : xs.length ≤ 1000000) :
    Calls Tryz.prog 81 #[v] w fun e w' => ∃ v', e = .returned v' ∧ Fr NoF w w' ∧ w'.ownsRow w.heap.size 31 1 v' xs.length xs := by
  obtain ⟨p, cap, rfl, h0, hc⟩ := hs
  have qT : ∀ (w : World) (a : Option Addr) (n c n' c' : Nat), (binOp .eql 120 (.slice a n c) (.slice none n' c')).run Tryz.prog w = .ok (.bool a.isNone) w := fun w a n c n' c' => Lib.run_eql_slice_nil w _ _ a n c n' c' Tryz.underlying120
  cases p with
  | none =>
    have he : xs = [] := by
      cases xs with
      | nil => rfl
      | cons x xs => obtain ⟨_, _, h, _⟩ := hc (by simp); simp at h
    subst he
    go_enter Tryz.func81, Tryz.ntmps81
    go_wp2
    go_ret
    exact ⟨_, rfl, Fr.refl _ _, rfl, .inl ⟨rfl, rfl⟩⟩
  | some a =>
    have HC := Lib.hid hc
    clear hc
    go_enter Tryz.func81, Tryz.ntmps81
    go_wp2_with (at_builtin; refine wpList_append_sl _ rfl _ _ 120 rfl w.heap.size 31 _ 8 Tryz.underlying120 cinfo_u64 rfl _ _ _ rfl (ownsRow_empty _ _) F _ xs rfl (SlAt.frN ⟨_, cap, rfl, h0, HC.out⟩ ((Fr.refl _ _).alloc _)) h1 (by omega) (by decide) (by simp) ?_)
    intro v' w' ho hf
    have HF : Hid (Fr NoF w w') := ((Fr.refl NoF _).alloc _).transB hf
    have HO : Hid (w'.ownsRow w.heap.size 31 1 v' xs.length xs) := ho
    clear ho hf
    go_wp2
    go_ret
    exact ⟨_, rfl, HF.out, HO.out⟩
theorem cinfo_int : (Tryz.prog.info? 3).map (fun i => (i.zero, i.size, i.bytes)) = some (some (.int .i64 0), 1, 8) := by kernel_rfl

set_option maxRecDepth 100000 in
theorem clone_int {w : World} {F : Nat → Prop} {v : Value} {xs : List Value} (hs : SlAt F w v xs) (h1 : ∀ x, x ∈ xs → x.oneCell' = true) (hbig : xs.length ≤ 1000000) :
    Calls Tryz.prog 68 #[v] w fun e w' => ∃ v', e = .returned v' ∧ Fr NoF w w' ∧ w'.ownsRow w.heap.size 3 1 v' xs.length xs := by
  obtain ⟨p, cap, rfl, h0, hc⟩ := hs
  have qT : ∀ (w : World) (a : Option Addr) (n c n' c' : Nat), (binOp .eql 86 (.slice a n c) (.slice none n' c')).run Tryz.prog w = .ok (.bool a.isNone) w := fun w a n c n' c' => Lib.run_eql_slice_nil w _ _ a n c n' c' Tryz.underlying86
  cases p with
  | none =>
    have he : xs = [] := by
      cases xs with
      | nil => rfl
      | cons x xs => obtain ⟨_, _, h, _⟩ := hc (by simp); simp at h
    subst he
    go_enter Tryz.func68, Tryz.ntmps68
    go_wp2
    go_ret
    exact ⟨_, rfl, Fr.refl _ _, rfl, .inl ⟨rfl, rfl⟩⟩
  | some a =>
    have HC := Lib.hid hc
    clear hc
    go_enter Tryz.func68, Tryz.ntmps68
    go_wp2_with (at_builtin; refine wpList_append_sl _ rfl _ _ 86 rfl w.heap.size 3 _ 8 Tryz.underlying86 cinfo_int rfl _ _ _ rfl (ownsRow_empty _ _) F _ xs rfl (SlAt.frN ⟨_, cap, rfl, h0, HC.out⟩ ((Fr.refl _ _).alloc _)) h1 (by omega) (by decide) (by simp) ?_)
    intro v' w' ho hf
    have HF : Hid (Fr NoF w w') := ((Fr.refl NoF _).alloc _).transB hf
    have HO : Hid (w'.ownsRow w.heap.size 3 1 v' xs.length xs) := ho
    clear ho hf
    go_wp2
    go_ret
    exact ⟨_, rfl, HF.out, HO.out⟩
theorem cinfo_u8 : (Tryz.prog.info? 5).map (fun i => (i.zero, i.size, i.bytes)) = some (some (.int .u8 0), 1, 1) := by kernel_rfl

set_option maxRecDepth 100000 in
theorem clone_u8 {w : World} {F : Nat → Prop} {v : Value} {xs : List Value} (hs : SlAt F w v xs) (h1 : ∀ x, x ∈ xs → x.oneCell' = true) (hbig : xs.length ≤ 1000000) :
    Calls Tryz.prog 35 #[v] w fun e w' => ∃ v', e = .returned v' ∧ Fr NoF w w' ∧ w'.ownsRow w.heap.size 5 1 v' xs.length xs := by
  obtain ⟨p, cap, rfl, h0, hc⟩ := hs
  have qT : ∀ (w : World) (a : Option Addr) (n c n' c' : Nat), (binOp .eql 28 (.slice a n c) (.slice none n' c')).run Tryz.prog w = .ok (.bool a.isNone) w := fun w a n c n' c' => Lib.run_eql_slice_nil w _ _ a n c n' c' Tryz.underlying28
  cases p with
  | none =>
    have he : xs = [] := by
      cases xs with
      | nil => rfl
      | cons x xs => obtain ⟨_, _, h, _⟩ := hc (by simp); simp at h
    subst he
    go_enter Tryz.func35, Tryz.ntmps35
    go_wp2
    go_ret
    exact ⟨_, rfl, Fr.refl _ _, rfl, .inl ⟨rfl, rfl⟩⟩
  | some a =>
    have HC := Lib.hid hc
    clear hc
    go_enter Tryz.func35, Tryz.ntmps35
    go_wp2_with (at_builtin; refine wpList_append_sl _ rfl _ _ 28 rfl w.heap.size 5 _ 1 Tryz.underlying28 cinfo_u8 rfl _ _ _ rfl (ownsRow_empty _ _) F _ xs rfl (SlAt.frN ⟨_, cap, rfl, h0, HC.out⟩ ((Fr.refl _ _).alloc _)) h1 (by omega) (by decide) (by simp) ?_)
    intro v' w' ho hf
    have HF : Hid (Fr NoF w w') := ((Fr.refl NoF _).alloc _).transB hf
    have HO : Hid (w'.ownsRow w.heap.size 5 1 v' xs.length xs) := ho
    clear ho hf
    go_wp2
    go_ret
    exact ⟨_, rfl, HF.out, HO.out⟩
end Go.Proofs.YtamdmkjejpkbiaaGreatDoor
