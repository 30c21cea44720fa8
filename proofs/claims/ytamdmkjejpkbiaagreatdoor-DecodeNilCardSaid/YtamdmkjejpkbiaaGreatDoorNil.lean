/- Law 12: a decoder that there isn't. -/
import Derived.Test.YtamdmkjejpkbiaaGreatDoorAwake
namespace Go.Proofs.YtamdmkjejpkbiaaGreatDoor
open Go Go.RowKit Go.Proofs

set_option maxRecDepth 100000 in
theorem nil_says {w : World} (id : Int) : Calls Tryz.prog 16 #[.pointer none, .int .u32 id] w fun e w' => e = .returned (.bool false) ∧ Fr NoF w w' := by
  go_enter Tryz.func16, Tryz.ntmps16
  go_wp2_with fail
  go_quiet (fail)
  go_wp2_with fail
  go_ret
  exact ⟨rfl, (Fr.refl _ _).drewN _⟩
set_option maxRecDepth 100000 in
theorem nil_take {w : World} (id : Int) (v : Value) : Calls Tryz.prog 13 #[.pointer none, .int .u32 id, v] w fun e w' => e = .returned (.bool false) ∧ Fr NoF w w' := by
  go_enter Tryz.func13, Tryz.ntmps13
  go_wp2_with fail
  go_quiet (fail)
  go_wp2_with fail
  go_ret
  exact ⟨rfl, (Fr.refl _ _).drewN _⟩
set_option maxRecDepth 100000 in
theorem nil_taken {w : World} : Calls Tryz.prog 14 #[.pointer none] w fun e w' => e = .returned (.int .i64 0) ∧ w = w' := by
  go_enter Tryz.func14, Tryz.ntmps14
  go_wp2_with fail
  go_ret
  exact ⟨rfl, rfl⟩
set_option maxRecDepth 100000 in
theorem nil_needs {w : World} : Calls Tryz.prog 12 #[.pointer none] w fun e w' => e = .returned (.int .i64 0) ∧ w = w' := by
  go_enter Tryz.func12, Tryz.ntmps12
  go_wp2_with fail
  go_ret
  exact ⟨rfl, rfl⟩
set_option maxRecDepth 100000 in
theorem nil_image {w : World} (len : Int) : Calls Tryz.prog 15 #[.pointer none, .int .i64 len] w fun e w' => e = .returned (.tuple #[.slice none 0 0, .bool false]) ∧ Fr NoF w w' := by
  go_enter Tryz.func15, Tryz.ntmps15
  go_wp2_with fail
  go_quiet (fail)
  go_wp2_with fail
  go_ret2
  exact ⟨rfl, ((Fr.refl _ _).alloc _).drewN _⟩

set_option maxRecDepth 100000 in
/-- The law: a decoder that there isn't. -/
theorem law_nil {w : World} (he : Env w) (id : Int) (v : Value) (len : Int) : Calls Tryz.prog 4 #[.agg #[.int .u32 id, v], .int .i64 len] w fun e w' => e = .returned (.bool true) ∧ Fr NoF w w' := by
  have HE := Lib.hid he
  clear he
  go_enter Tryz.func4, Tryz.ntmps4
  go_wp2_with fail
  have hbk := Blk.new w #[.int .u32 id, v] 36
  have HA := Lib.hid ((Fr.refl NoF w).alloc (.cells #[.int .u32 id, v] 36))
  refine (nil_image len).mono ?_
  rintro e w1 ⟨rfl, hf1⟩
  have HF1 : Hid (Fr NoF w w1) := HA.out.transN hf1
  have HB1 : Hid (Blk w1 w.heap.size _ _) := hbk.frN hf1
  have c0 : w1.cell? ⟨w.heap.size, 0, none⟩ = some (.int .u32 id) := HB1.out.cell 0 rfl
  clear hf1 hbk
  go_wp2_with fail
  refine (nil_says id).mono ?_
  rintro e w2 ⟨rfl, hf2⟩
  have HF2 : Hid (Fr NoF w w2) := HF1.out.transN hf2
  have HB2 : Hid (Blk w2 w.heap.size _ _) := HB1.out.frN hf2
  have d0 : w2.cell? ⟨w.heap.size, 0, none⟩ = some (.int .u32 id) := HB2.out.cell 0 rfl
  have d1 : w2.cell? ⟨w.heap.size, 1, none⟩ = some v := HB2.out.cell 1 rfl
  clear hf2 c0 HB1 HF1
  go_wp2_with fail
  refine (nil_take id v).mono ?_
  rintro e w3 ⟨rfl, hf3⟩
  have HF3 : Hid (Fr NoF w w3) := HF2.out.transN hf3
  clear hf3 d0 d1 HB2 HF2
  go_wp2_with fail
  refine nil_taken.mono ?_
  rintro e w4 ⟨rfl, rfl⟩
  go_wp2_with fail
  refine nil_needs.mono ?_
  rintro e w4 ⟨rfl, rfl⟩
  go_wp2_with fail
  refine (awake_any (HE.out.frN HF3.out)).mono ?_
  rintro e w4 ⟨rfl, hf4⟩
  have HF4 : Hid (Fr NoF w w4) := HF3.out.transN hf4
  clear hf4
  go_wp2_with fail
  go_ret
  exact ⟨rfl, HF4.out⟩
end Go.Proofs.YtamdmkjejpkbiaaGreatDoor
