/- Law 12: parameters and an image that may be, made of any. -/
import Derived.Test.YtamdmkjejpkbiaaGreatDoorAwake
import Derived.Test.YtamdmkjejpkbiaaGreatDoorArgs
import Derived.Test.YtamdmkjejpkbiaaGreatDoorZeros
namespace Go.Proofs.YtamdmkjejpkbiaaGreatDoor
open Go Go.RowKit Go.Proofs

/-- The image: some bytes, and one. -/
def soundL (l : List UInt8) : List UInt8 := l.take 200 ++ [7]
theorem soundL_length (l : List UInt8) : (soundL l).length = min l.length 200 + 1 := by simp [soundL]; omega
/-- How many bytes a symbol has. -/
def soundZ (z : Nat) (n : Nat) : Nat := max (1 + z % 16) ((n + 63) / 64)

/-- The parameters. -/
def soundP (s z p n : Nat) : Par := ⟨s, (n + soundZ z n - 1) / soundZ z n, p % 17, soundZ z n⟩
theorem soundP_ok {s z p n : Nat} (hs : s < 4294967296) (h1 : 1 ≤ n) (h2 : n ≤ 1024) : (soundP s z p n).Ok ∧ (n ≤ 512 → countN n (soundP s z p n).sz = (soundP s z p n).K) := by
  have hz : 1 ≤ soundZ z n ∧ soundZ z n ≤ 16 ∧ (n + 63) / 64 ≤ soundZ z n := by unfold soundZ; omega
  obtain ⟨z1, z2, z3⟩ := hz
  have hk : 1 ≤ (n + soundZ z n - 1) / soundZ z n ∧ (n + soundZ z n - 1) / soundZ z n ≤ 64 := by
    generalize soundZ z n = y at *
    constructor
    · rw [Nat.le_div_iff_mul_le (by omega)]; omega
    · have : n ≤ 64 * y := by omega
      rw [← Nat.lt_succ_iff, Nat.div_lt_iff_lt_mul (by omega), Nat.succ_mul]
      omega
  refine ⟨⟨hs, hk.1, hk.2, ?_, z1, z2⟩, fun h3 => ?_⟩
  · show p % 17 ≤ 16
    omega
  · show countN n (soundZ z n) = (n + soundZ z n - 1) / soundZ z n
    unfold countN
    rw [if_pos ⟨h1, h3, z1, z2, hk.2⟩]

/-- A number of 64 bits without its sign. -/
def uns (z : Int) : Nat := (z % 18446744073709551616).toNat
theorem uns_wrap (z : Int) : IntKind.u64.wrap z = (uns z : Int) := by
  unfold uns
  rw [IntKind.wrap_u64]
  omega

theorem sound_div {n y : Nat} (hn : 1 ≤ n) : ((n : Int) + (y : Int) - 1) / (y : Int) = (((n + y - 1) / y : Nat) : Int) := by
  rw [Int.natCast_ediv, show ((n + y - 1 : Nat) : Int) = (n : Int) + (y : Int) - 1 by omega]
set_option maxHeartbeats 400000 in
set_option maxRecDepth 100000 in
theorem sound_any {w : World} (s : Nat) (hs : s < 4294967296) (k p z : Int) {F : Nat → Prop} {v : Value} {l : List UInt8} (hl : SlAt F w v (bytesV l)) (hm : l.length ≤ maxLen) :
    Calls Tryz.prog 10 #[.agg #[.int .u32 s, .int .i64 k, .int .i64 p, .int .i64 z], v] w fun e w' => ∃ v', e = .returned (.tuple #[.agg (soundP s (uns z) (uns p) (soundL l).length).cells, v']) ∧ Fr NoF w w' ∧
      w'.ownsRow w.heap.size 5 1 v' (soundL l).length (bytesV (soundL l)) := by
  unfold maxLen at hm
  obtain ⟨pl, cl, rfl⟩ := hl.shape
  have hcap := hl.cap.2
  rw [bytesV_length] at hl hcap ⊢
  obtain ⟨m, hmd⟩ : ∃ m, m = min l.length 200 := ⟨_, rfl⟩
  have hmi : min (l.length : Int) 200 = (m : Int) := by omega
  have hml : m ≤ l.length := by omega
  have hm2 : m ≤ 200 := by omega
  have hbl : (l.take m).length = m := by rw [List.length_take]; omega
  have hT : SlAt F w (.slice pl m cl) (bytesV (l.take m)) := by
    have := hl.take hml
    rwa [show (bytesV l).take m = bytesV (l.take m) from (List.map_take ..).symm] at this
  have hbk := Blk.new w #[.int .u32 s, .int .i64 k, .int .i64 p, .int .i64 z] 24
  have HB := Lib.hid hbk
  have HT := Lib.hid hT
  have HMD := Lib.hid hmd
  clear hl hmd hT hbk
  have hzu := uns_wrap z
  have hpu := uns_wrap p
  have hul : (uns z : Int) < 18446744073709551616 := by unfold uns; omega
  have hul2 : (uns p : Int) < 18446744073709551616 := by unfold uns; omega
  obtain ⟨Z, hZ⟩ : ∃ Z, Z = uns z := ⟨_, rfl⟩
  obtain ⟨P, hP⟩ : ∃ P, P = uns p := ⟨_, rfl⟩
  rw [← hZ] at hzu hul ⊢
  rw [← hP] at hpu hul2 ⊢
  clear hZ hP
  have hn1 := soundL_length l
  obtain ⟨n, hn⟩ : ∃ n, n = (soundL l).length := ⟨_, rfl⟩
  have hnm : m + 1 = n := by have := HMD.out; omega
  rw [← hn] at hn1 ⊢
  have hn2 : 1 ≤ n ∧ n ≤ 201 := by omega
  obtain ⟨hn2, hn3⟩ := hn2
  obtain ⟨y, hy⟩ : ∃ y, y = soundZ Z n := ⟨_, rfl⟩
  have hmx : max (1 + (Z : Int) % 16) (((n : Int) + 64 - 1) / 64) = (y : Int) := by rw [hy]; unfold soundZ; omega
  have hy1 : 1 ≤ y ∧ y ≤ 16 := by rw [hy]; unfold soundZ; omega
  obtain ⟨hy1, hy2⟩ := hy1
  have hP : soundP s Z P n = ⟨s, (n + y - 1) / y, P % 17, y⟩ := by rw [hy]; rfl
  have HP := Lib.hid hP
  clear hy hP
  have HN := Lib.hid hn
  have HNM := Lib.hid hnm
  clear hn hnm hn1
  go_enter Tryz.func10, Tryz.ntmps10
  go_wp2_with (at_builtin; refine wpList_append_sl _ rfl _ _ 28 rfl (w.heap.size + 1 + 1) 5 _ 1 Tryz.underlying28 cinfo_u8 rfl _ _ _ rfl (own_empty (B := w.heap.size + 1 + 1) (g := w.heap.size + 1 + 1) (by simp) (by omega)) F _ (bytesV (l.take m)) rfl (HT.out.frN ((((Fr.refl _ _).alloc _).alloc _).alloc _)) (bytesV_one _) (by rw [bytesV_length, hbl]; omega) (by decide) (by simp) ?_)
  intro v1 w1 ho1 hf1
  have hsz1 := hf1.size
  simp only [World.size_alloc] at hsz1
  rw [bytesV_length, hbl] at ho1
  obtain ⟨p1, c1, rfl⟩ := ownsRow_slice ho1
  have HF1 : Hid (Fr NoF w w1) := (((Fr.refl NoF w).alloc _).alloc _).alloc _ |>.trans hf1 fun i hi hk => by omega
  have HB1 : Hid (Blk w1 w.heap.size _ _) := (((HB.out.alloc _).alloc _).fr hf1 fun hk => by omega)
  have HR1 : Hid (Blk w1 (w.heap.size + 1) #[.int .u32 0, .int .i64 0, .int .i64 0, .int .i64 0] 24) := ((Blk.newAt (by simp) _ _).alloc _).fr hf1 fun hk => by omega
  have HO1 := Lib.hid ho1
  clear ho1 hf1
  go_wp2_with (at_builtin; refine wpList_append_one _ rfl _ _ 28 rfl (w.heap.size + 1 + 1) 5 _ 1 Tryz.underlying28 cinfo_u8 rfl _ _ _ rfl HO1.out _ rfl rfl (by omega) (by decide) (by omega) ?_)
  intro v2 w2 ho2 hf2
  have hsz2 := hf2.size
  rw [HNM.out] at ho2
  obtain ⟨p2, c2, rfl⟩ := ownsRow_slice ho2
  have HF2 : Hid (Fr NoF w w2) := HF1.out.trans hf2 fun i hi hk => by omega
  have HB2 : Hid (Blk w2 w.heap.size _ _) := HB1.out.fr hf2 fun hk => by omega
  have HR2 : Hid (Blk w2 (w.heap.size + 1) _ _) := HR1.out.fr hf2 fun hk => by omega
  have HO2 := Lib.hid ho2
  have c3 : w2.cell? ⟨w.heap.size, 3, none⟩ = some (.int .i64 z) := HB2.out.cell 3 rfl
  clear ho2 hf2 HB1 HR1 HO1
  go_wp2_with fail
  have c0 : w2.cell? ⟨w.heap.size, 0, none⟩ = some (.int .u32 s) := HB2.out.cell 0 rfl
  have c2' : w2.cell? ⟨w.heap.size, 2, none⟩ = some (.int .i64 p) := HB2.out.cell 2 rfl
  have r0 := HR2.out.cell 0 rfl
  have r1 := HR2.out.cell 1 rfl
  have r2 := HR2.out.cell 2 rfl
  have r3 := HR2.out.cell 3 rfl
  have z0 := HR2.out.frozen 0
  have z1 := HR2.out.frozen 1
  have z2 := HR2.out.frozen 2
  have z3 := HR2.out.frozen 3
  clear c3
  go_region
  all_goals go_wp2
  have HRF := (((((HR2.out.setCell 0 (.int .u32 s)).setCell 1 (.int .i64 (((n : Int) + (y : Int) - 1) / (y : Int)))).setCell 2 (.int .i64 ((P : Int) % 17))).setCell 3 (.int .i64 y)).drew)
  have q0 := HRF.cell 0 rfl
  have q1 := HRF.cell 1 rfl
  have q2 := HRF.cell 2 rfl
  have q3 := HRF.cell 3 rfl
  have hff : Fr (fun i => i = w.heap.size + 1) w2 _ := (((((Fr.refl (fun i => i = w.heap.size + 1) w2).setCell (p := ⟨w.heap.size + 1, 0, none⟩) (fun _ => rfl) (.int .u32 s)).setCell (p := ⟨w.heap.size + 1, 1, none⟩) (fun _ => rfl) (.int .i64 (((n : Int) + (y : Int) - 1) / (y : Int)))).setCell (p := ⟨w.heap.size + 1, 2, none⟩) (fun _ => rfl) (.int .i64 ((P : Int) % 17))).setCell (p := ⟨w.heap.size + 1, 3, none⟩) (fun _ => rfl) (.int .i64 y)).drew
  refine bodyPost_ret (v := .tuple #[.agg #[.int .u32 s, .int .i64 (((n : Int) + (y : Int) - 1) / (y : Int)), .int .i64 ((P : Int) % 17), .int .i64 y], .slice p2 n c2]) (by simp [results, Tryz.results10, go_sem, q0, q1, q2, q3]) rfl ⟨.slice p2 n c2, ?_, HF2.out.trans hff (fun i hi hk => by have hk : i = w.heap.size + 1 := hk; omega), ?_⟩
  · rw [HP.out]
    unfold Par.cells
    rw [sound_div hn2]
    rfl
  · have := ownsRow_base (ownsRow_fr HO2.out hff fun k hk => by have hk : k = w.heap.size + 1 := hk; omega) (show w.heap.size ≤ w.heap.size + 1 + 1 by omega)
    rw [show bytesV (soundL l) = bytesV (l.take m) ++ [.int .u8 7] by
      unfold soundL
      have e : l.take 200 = l.take m := by
        rw [HMD.out]
        rcases Nat.lt_or_ge l.length 200 with h | h
        · rw [Nat.min_eq_left (by omega), List.take_of_length_le (by omega), List.take_of_length_le (by omega)]
        · rw [Nat.min_eq_right h]
      rw [e]; simp [bytesV, byteV]]
    exact this
end Go.Proofs.YtamdmkjejpkbiaaGreatDoor
