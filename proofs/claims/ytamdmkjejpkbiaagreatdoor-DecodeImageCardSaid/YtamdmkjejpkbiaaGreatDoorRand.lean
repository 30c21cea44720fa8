/- Numbers by chance: what the functions of package rand compute. -/
import Derived.Test.YtamdmkjejpkbiaaGreatDoorVec
import Derived.Test.YtamdmkjejpkbiaaGreatDoorSync
import Derived.Sort.OwnSortedInts
namespace Go.Proofs.YtamdmkjejpkbiaaGreatDoor
open Go Go.RowKit Go.Proofs

theorem u32_xor_div (x d : Nat) (h : x < 4294967296) : bits .xor .u32 (x : Int) ((x / d : Nat) : Int) = ((x ^^^ x / d : Nat) : Int) :=
  u32_xor_nat _ _ h (Nat.lt_of_le_of_lt (Nat.div_le_self _ _) h)

theorem mix_any {w : World} (x : Nat) (hx : x < 4294967296) :
    Calls Tryz.prog 60 #[.int .u32 x] w fun e w' => e = .returned (.int .u32 (mix x)) ∧ w = w' := by
  have a1 : bits .xor .u32 (x : Int) ((x : Int) / 65536) * 2146121005 % 4294967296 = ((mix1 x : Nat) : Int) := by
    have := u32_xor_div x 65536 hx
    rw [show ((x : Int) / 65536) = ((x / 65536 : Nat) : Int) from rfl, this]; rfl
  have a2 : bits .xor .u32 (mix1 x : Int) ((mix1 x : Int) / 32768) * 2221713035 % 4294967296 = ((mix2 (mix1 x) : Nat) : Int) := by
    have := u32_xor_div (mix1 x) 32768 (mix1_lt _)
    rw [show ((mix1 x : Int) / 32768) = ((mix1 x / 32768 : Nat) : Int) from rfl, this]; rfl
  have a3 : bits .xor .u32 (mix2 (mix1 x) : Int) ((mix2 (mix1 x) : Int) / 65536) = ((mix x : Nat) : Int) := by
    have := u32_xor_div (mix2 (mix1 x)) 65536 (mix2_lt _)
    rw [show ((mix2 (mix1 x) : Int) / 65536) = ((mix2 (mix1 x) / 65536 : Nat) : Int) from rfl, this]; rfl
  have H1 := Lib.hid a1
  have H2 := Lib.hid a2
  have H3 := Lib.hid a3
  clear a1 a2 a3
  go_enter Tryz.func60, Tryz.ntmps60
  go_wp2
  go_ret
  refine ⟨?_, rfl⟩
  rw [H1.out, H2.out, H3.out]
  rfl

/-- A source in memory. -/
def SrcRep (w : World) (b s : Nat) : Prop := Blk w b #[.int .u32 s] 117 ∧ s < 4294967296
theorem SrcRep.eq {w w' : World} {b s : Nat} (h : SrcRep w b s) (e : w'.heap[b]? = w.heap[b]?) : SrcRep w' b s := ⟨h.1.eq e, h.2⟩
theorem SrcRep.fr {w w' : World} {b s : Nat} {F : Nat → Prop} (h : SrcRep w b s) (hf : Fr F w w') (hn : ¬ F b) : SrcRep w' b s := ⟨h.1.fr hf hn, h.2⟩

set_option maxRecDepth 100000 in
theorem src_new {w : World} (a b : Nat) (ha : a < 4294967296) (hb : b < 4294967296) :
    Calls Tryz.prog 40 #[.int .u32 a, .int .u32 b] w fun e w' => ∃ p, e = .returned (.pointer (some ⟨p, 0, none⟩)) ∧ Fr NoF w w' ∧ SrcRep w' p (seed a b) ∧ w.heap.size ≤ p := by
  have hs : ((mix a : Int) + (b : Int) * 2654435769 + 1) % 4294967296 = ((seed a b : Nat) : Int) := rfl
  have HS := Lib.hid hs
  clear hs
  have c0 := (Blk.new w #[.int .u32 0] 117).drew.cell 0 rfl
  have z0 := (Blk.new w #[.int .u32 0] 117).drew.frozen 0
  go_enter Tryz.func40, Tryz.ntmps40
  go_wp2_with fail
  go_region_with (first | (go_at_call 60; refine (mix_any a ha).mono ?_; rintro e w1 ⟨rfl, rfl⟩) | (go_at_call 59; refine (at_store_u32 _ c0 z0).mono ?_; rintro e w1 ⟨rfl, rfl⟩))
  go_wp2
  go_ret
  have e : IntKind.u32.wrap (IntKind.u32.wrap ((mix a : Int) + IntKind.u32.wrap ((b : Int) * 2654435769)) + 1) = ((seed a b : Nat) : Int) := by
    simp only [IntKind.wrap_u32']
    unfold seed
    omega
  rw [e]
  exact ⟨_, rfl, ((Fr.refl _ _).alloc _).drew, ⟨(Blk.new _ _ _).drew, seed_lt _ _⟩, Nat.le_refl _⟩

set_option maxRecDepth 100000 in
theorem src_next {w : World} {b s : Nat} (h : SrcRep w b s) :
    Calls Tryz.prog 42 #[.pointer (some ⟨b, 0, none⟩)] w fun e w' => e = .returned (.int .u32 (mix (nextS s))) ∧ Fr (· = b) w w' ∧ SrcRep w' b (nextS s) := by
  obtain ⟨hb, hs⟩ := h
  have c0 : w.cell? ⟨b, 0, none⟩ = some (.int .u32 s) := hb.cell 0 rfl
  have z0 := hb.frozen 0
  have hf0 := fromZero_lt hs
  have hA := stepA_lt hf0
  have hB := stepB_lt hA
  have hC := stepC_lt hB
  have eA : bits .xor .u32 (fromZero s : Int) ((fromZero s : Int) * 8192 % 4294967296) = ((stepA (fromZero s) : Nat) : Int) := u32_xor_nat _ _ hf0 (Nat.mod_lt _ (by decide))
  have eB : bits .xor .u32 (stepA (fromZero s) : Int) ((stepA (fromZero s) : Int) / 131072) = ((stepB (stepA (fromZero s)) : Nat) : Int) := u32_xor_div _ 131072 hA
  have eC : bits .xor .u32 (stepB (stepA (fromZero s)) : Int) ((stepB (stepA (fromZero s)) : Int) * 32 % 4294967296) = ((nextS s : Nat) : Int) := u32_xor_nat _ _ hB (Nat.mod_lt _ (by decide))
  have hcas : ∃ w1, (w1 = if s = 0 then w.setCell ⟨b, 0, none⟩ (.int .u32 1) else w) ∧ Hid (Blk w1 b #[.int .u32 (fromZero s : Nat)] 117) ∧ Hid (Fr (· = b) w w1) := by
    refine ⟨_, rfl, ?_, ?_⟩
    · unfold fromZero
      split
      · exact hb.setCell 0 _
      · exact hb
    · split
      · exact (Fr.refl _ _).setCell (by intro _; rfl) _
      · exact Fr.refl _ _
  obtain ⟨w1, hw1, HB, HF⟩ := hcas
  have HW := Lib.hid hw1
  have HA := Lib.hid eA
  have HBe := Lib.hid eB
  have HC := Lib.hid eC
  clear hw1 eA eB eC
  have d0 : w1.cell? ⟨b, 0, none⟩ = some (.int .u32 (fromZero s : Nat)) := HB.out.cell 0 rfl
  have y0 : w1.frozen? ⟨b, 0, none⟩ = false := HB.out.frozen 0
  go_enter Tryz.func42, Tryz.ntmps42
  go_wp2_with fail
  refine (at_cas01_u32 c0 z0).mono ?_
  rintro e w2 ⟨rfl, hw2⟩
  obtain rfl : w2 = w1 := hw2.trans HW.out.symm
  clear hw2
  go_wp2_with fail
  refine (at_load_u32 d0).mono ?_
  rintro e w3 ⟨rfl, rfl⟩
  go_wp2_with fail
  rw [HA.out, HBe.out, HC.out]
  refine (at_store_u32 _ d0 y0).mono ?_
  rintro e w3 ⟨rfl, rfl⟩
  go_wp2_with fail
  refine (mix_any (nextS s) hC).mono ?_
  rintro e w3 ⟨rfl, rfl⟩
  go_wp2
  go_ret
  exact ⟨rfl, HF.out.setCell (by intro _; rfl) _, HB.out.setCell 0 _, hC⟩

set_option maxRecDepth 100000 in
theorem src_below {w : World} {b s : Nat} (h : SrcRep w b s) (n : Nat) (h1 : 1 ≤ n) (h2 : n ≤ 256) :
    Calls Tryz.prog 67 #[.pointer (some ⟨b, 0, none⟩), .int .i64 n] w fun e w' => e = .returned (.int .i64 (belowN s n)) ∧ Fr (· = b) w w' ∧ SrcRep w' b (nextS s) := by
  have hm := mix_lt (nextS s)
  have hp : mix (nextS s) * n < 4294967296 * 256 := Nat.mul_lt_mul_of_lt_of_le hm h2 (by decide)
  have e1 : IntKind.u64.wrap ((mix (nextS s) : Int) * (n : Int)) = ((mix (nextS s) * n : Nat) : Int) := by
    rw [← Int.natCast_mul]
    exact IntWalk.u64_in _ (by omega)
  have e2 : ((mix (nextS s) * n : Nat) : Int) / 4294967296 = ((belowN s n : Nat) : Int) := rfl
  have e3 : belowN s n < 256 := Nat.lt_of_lt_of_le (belowN_lt s n h1) h2
  have H1 := Lib.hid e1
  have H2 := Lib.hid e2
  have H3 := Lib.hid hp
  clear e1 e2 hp
  go_enter Tryz.func67, Tryz.ntmps67
  go_wp2_with fail
  refine (src_next h).mono ?_
  rintro e w1 ⟨rfl, hf, hs⟩
  have HF := Lib.hid hf
  have HS := Lib.hid hs
  clear hf hs
  go_wp2_with fail
  go_ret
  refine ⟨?_, HF.out, HS.out⟩
  have := H3.out
  rw [← H2.out, ← H1.out]
  rw [IntWalk.wrap64_in _ ⟨by rw [H1.out]; omega, by rw [H1.out]; omega⟩]
  rfl

/-- Numbers as they lie in a row of ints. -/
def ints (l : List Nat) : Array Value := (l.map fun (i : Nat) => Value.int .i64 i).toArray
theorem ints_size (l : List Nat) : (ints l).size = l.length := by simp [ints]
theorem ints_get (l : List Nat) (j : Nat) (h : j < l.length) : (ints l)[j]? = some (.int .i64 (l[j]?.getD 0 : Nat)) := by
  simp [ints, h]
theorem ints_set (l : List Nat) (j v : Nat) : (ints l).setIfInBounds j (.int .i64 v) = ints (l.set j v) := by
  unfold ints
  rw [List.setIfInBounds_toArray, List.map_set]
theorem range_set (n k : Nat) (h : k < n) : (List.range k ++ List.replicate (n - k) 0).set k k = List.range (k + 1) ++ List.replicate (n - (k + 1)) 0 := by
  have e : n - k = (n - (k + 1)) + 1 := by omega
  rw [e, List.replicate_succ, List.set_append_right _ _ (by simp)]
  simp [List.range_succ]

theorem make_int (l : Int) (h0 : 0 ≤ l) (h : l ≤ 1000000) (w : World) :
    (Instr.makeSlice 86 (.int .i64 l) (.int .i64 l)).run Tryz.prog w = .ok (.slice (some ⟨w.heap.size, 0, none⟩) l.toNat l.toNat) (w.alloc (.cells (Array.replicate l.toNat (.int .i64 0)) 3)) := by
  obtain ⟨i0, hi, hz0, hz1, hz2⟩ := info_parts info_int
  exact run_make_flat _ _ i0 _ Tryz.underlying86 hi hz0 rfl hz1 l h0 (by rw [hz2]; omega) (by omega) w

theorem repl_ints (n : Nat) : Array.replicate n (Value.int .i64 0) = ints (List.range 0 ++ List.replicate (n - 0) 0) := by
  unfold ints
  simp

theorem toNat_cast {zs : List Int} (h : ∀ x, x ∈ zs → 0 ≤ x) : (zs.map Int.toNat).map (fun (i : Nat) => Value.int .i64 i) = zs.map (Value.int .i64) := by
  rw [List.map_map]
  apply List.map_congr_left
  intro x hx
  have := h x hx
  simp [Int.toNat_of_nonneg this]

/-- slices.Sort at a slice of the call's own. -/
theorem sort_own {w : World} {base : Nat} {v : Value} {l : List Nat} (ho : w.ownsRow base 3 1 v l.length (l.map fun (i : Nat) => .int .i64 i)) (hb : l.length ≤ 1000000) :
    Calls Tryz.prog 69 #[v] w fun e w' => e = .returned (.tuple #[]) ∧ Fr (fun k => base ≤ k) w w' ∧ ∃ l' : List Nat, (∀ i, i ∈ l' ↔ i ∈ l) ∧ l'.length = l.length ∧
      w'.ownsRow base 3 1 v l.length (l'.map fun (i : Nat) => .int .i64 i) := by
  obtain ⟨hl, h⟩ := id ho
  rcases h with ⟨rfl, e⟩ | ⟨g, cap, cur, rfl, hg, hh, h1, h2, h3, h4⟩
  · rw [e]
    refine (Any.slices_Sort_int_none Tryz.lays189 none 0 w).mono ?_
    rintro e' w' ⟨rfl, rfl⟩
    rw [e] at ho
    exact ⟨rfl, Fr.refl _ _, l, fun i => Iff.rfl, e, ho⟩
  · have hz : (l.map fun (i : Nat) => Value.int .i64 i) = (l.map fun (i : Nat) => (i : Int)).map (Value.int .i64) := by rw [List.map_map]; rfl
    have hlen : (l.map fun (i : Nat) => (i : Int)).length = l.length := List.length_map _
    have hH : Sort.Holds (Value.int .i64) w g 0 (l.map fun (i : Nat) => (i : Int)).toArray := holds_of_blockI hh (by rw [hlen, ← hz, ← h4, Nat.mul_one])
    have c := Any.slices_Sort_int Tryz.lays189 g 0 cap (l.map fun (i : Nat) => (i : Int)) w hH (Blk.lt (c := cur) (T := 3) hh) (by rw [hlen]; omega)
    rw [hlen] at c
    refine c.mono ?_
    rintro e' w' ⟨rfl, n, os, rfl⟩
    have hperm := List.mergeSort_perm (l.map fun (i : Nat) => (i : Int)) (fun x y => decide (x ≤ y))
    have hml : ((l.map fun (i : Nat) => (i : Int)).mergeSort fun x y => decide (x ≤ y)).length = l.length := by rw [hperm.length_eq, hlen]
    have hmem : ∀ x, x ∈ ((l.map fun (i : Nat) => (i : Int)).mergeSort fun x y => decide (x ≤ y)) ↔ ∃ i, i ∈ l ∧ (i : Int) = x := fun x => by rw [hperm.mem_iff]; simp
    refine ⟨rfl, (Fr.refl _ _).grown (grownBy_sortedI _) (fun k _ hk => by simp at hk; omega), ((l.map fun (i : Nat) => (i : Int)).mergeSort fun x y => decide (x ≤ y)).map Int.toNat, fun i => ?_, by rw [List.length_map, hml], ?_⟩
    · rw [List.mem_map]
      constructor
      · rintro ⟨x, hx, rfl⟩
        obtain ⟨j, hj, rfl⟩ := (hmem x).1 hx
        simpa using hj
      · intro hi
        exact ⟨(i : Int), (hmem _).2 ⟨i, hi, rfl⟩, by simp⟩
    · rw [toNat_cast (fun x hx => by obtain ⟨j, _, rfl⟩ := (hmem x).1 hx; omega)]
      have := ownsRow_sortedI (w := w) (n := n) (os := os) (ts := (l.map fun (i : Nat) => (i : Int)).mergeSort fun x y => decide (x ≤ y)) (ss := l.map fun (i : Nat) => (i : Int)) (by rw [hml, hlen]) hg hh (by rw [hlen]; exact h1) h2 h3
      rw [hlen] at this
      exact this

set_option maxRecDepth 100000 in
theorem src_some {w : World} {b s : Nat} (h : SrcRep w b s) (n k : Nat) (h1 : 1 ≤ n) (h2 : n ≤ 256) (hk : k ≤ n) :
    Calls Tryz.prog 47 #[.pointer (some ⟨b, 0, none⟩), .int .i64 n, .int .i64 k] w fun e w' => ∃ (v : Value) (l : List Nat), e = .returned v ∧ Fr (· = b) w w' ∧ SrcRep w' b (someAt n s k).1 ∧
      SlAt (fun k => w.heap.size ≤ k) w' v (l.map fun (i : Nat) => .int .i64 i) ∧ (∀ i, i ∈ l ↔ i ∈ someL n s k) ∧ l.length ≤ 256 := by
  have hb0 : b < w.heap.size := h.1.lt
  have HS := Lib.hid h
  clear h
  have hmk := make_int n (by omega) (by omega)
  rw [Int.toNat_natCast, repl_ints] at hmk
  have hmin : min (k : Int) (n : Int) = (k : Int) := by omega
  have hmax : max (0 : Int) (k : Int) = (k : Int) := by omega
  go_enter Tryz.func47, Tryz.ntmps47
  go_wp2_with fail
  have HS1 : Hid (SrcRep (w.alloc (.cells (ints (List.range 0 ++ List.replicate (n - 0) 0)) 3)) b s) := HS.out.eq (Below.heap_alloc _ _ _ hb0)
  have HB1 : Hid (Blk (w.alloc (.cells (ints (List.range 0 ++ List.replicate (n - 0) 0)) 3)) w.heap.size (ints (List.range 0 ++ List.replicate (n - 0) 0)) 3) := Blk.new _ _ _
  have HF1 : Hid (Fr (· = b) w (w.alloc (.cells (ints (List.range 0 ++ List.replicate (n - 0) 0)) 3))) := (Fr.refl _ _).alloc _
  go_loopw [25] (fun i wr => ∃ j : Nat, j ≤ n ∧ i = .int .i64 j ∧ Hid (SrcRep wr b s) ∧ Hid (Blk wr w.heap.size (ints (List.range j ++ List.replicate (n - j) 0)) 3) ∧ Hid (Fr (· = b) w wr)) (fun i _ => n - (intOf i).toNat)
  case atStart => exact ⟨0, Nat.zero_le _, rfl, HS1, HB1, HF1⟩
  case round =>
    clear HS1 HB1 HF1
    obtain ⟨j, hj, rfl, HS1, HB1, HF1⟩ := hrel
    by_cases hlt : j < n
    · have c0 : wr.cell? ⟨w.heap.size, j, none⟩ = some (.int .i64 ((List.range j ++ List.replicate (n - j) 0)[j]?.getD 0 : Nat)) := HB1.out.cell j (ints_get _ _ (by simp; omega))
      have z0 := HB1.out.frozen j
      go_wp2_with fail
      go_roundw
      case rel =>
        refine ⟨j + 1, by omega, by go_num, HS1.out.eq (Below.heap_setCell _ _ _ _ (by show b ≠ w.heap.size; omega)), ?_, HF1.out.setCell (by intro h; exact absurd h (Nat.lt_irrefl _)) _⟩
        have := HB1.out.setCell j (.int .i64 (j : Nat))
        rw [ints_set, range_set _ _ hlt] at this
        exact this
      case measure => simp [intOf]; omega
    · have e : j = n := by omega
      subst e
      go_wp2_with fail
      have HB2 : Hid (Blk wr w.heap.size (ints (someAt j s 0).2) 3) := by
        have := HB1.out
        simp only [Nat.sub_self, List.replicate_zero, List.append_nil] at this
        exact this
      have HS2 : Hid (SrcRep wr b (someAt j s 0).1) := HS1.out
      clear HB1 HS1
      go_loopw [38] (fun i wr => ∃ q : Nat, q ≤ k ∧ i = .int .i64 q ∧ Hid (SrcRep wr b (someAt j s q).1) ∧ Hid (Blk wr w.heap.size (ints (someAt j s q).2) 3) ∧ Hid (Fr (· = b) w wr)) (fun i _ => k - (intOf i).toNat)
      case atStart => exact ⟨0, Nat.zero_le _, rfl, HS2, HB2, HF1⟩
      case round =>
        clear HS2 HB2 HF1
        obtain ⟨q, hq, rfl, HS1, HB1, HF1⟩ := hrel
        by_cases hqk : q < k
        · have hbn : belowN (someAt j s q).1 (j - q) < j - q := belowN_lt _ _ (by omega)
          have ecast : ((j : Int) - (q : Int)) = ((j - q : Nat) : Int) := by omega
          go_wp2_with fail
          refine (src_below HS1.out (j - q) (by omega) (by omega)).mono ?_
          rintro e w2 ⟨rfl, hf2, hs2⟩
          have HB2 : Hid (Blk w2 w.heap.size (ints (someAt j s q).2) 3) := HB1.out.fr hf2 (by omega)
          have HF2 : Hid (Fr (· = b) w w2) := HF1.out.trans' hf2
          have HS2 := Lib.hid hs2
          clear hf2 hs2
          have hlen := someAt_length j s q
          have g1 := ints_get (someAt j s q).2 q (by omega)
          have g2 := ints_get (someAt j s q).2 (q + belowN (someAt j s q).1 (j - q)) (by omega)
          go_wp2_with fail
          have c1 : w2.cell? ⟨w.heap.size, q, none⟩ = some (.int .i64 ((someAt j s q).2[q]?.getD 0 : Nat)) := HB2.out.cell q g1
          have c2 : w2.cell? ⟨w.heap.size, q + belowN (someAt j s q).1 (j - q), none⟩ = some (.int .i64 ((someAt j s q).2[q + belowN (someAt j s q).1 (j - q)]?.getD 0 : Nat)) := HB2.out.cell _ g2
          have z1 := HB2.out.frozen q
          have z2 := HB2.out.frozen (q + belowN (someAt j s q).1 (j - q))
          obtain ⟨v', hy'⟩ := cell?_setCell_some (w := w2) (p := ⟨w.heap.size, q, none⟩) (x := .int .i64 ((someAt j s q).2[q + belowN (someAt j s q).1 (j - q)]?.getD 0 : Nat)) (q := ⟨w.heap.size, q + belowN (someAt j s q).1 (j - q), none⟩) c2
          clear g1 g2
          go_region
          go_wp2
          go_roundw
          case rel =>
            refine ⟨q + 1, by omega, by go_num, ?_, ?_, ?_⟩
            · have hne : b ≠ w.heap.size := by omega
              exact SrcRep.eq (w := w2) HS2.out ((Below.heap_setCell _ _ _ _ hne).trans (Below.heap_setCell _ _ _ _ hne))
            · have := (HB2.out.setCell q (.int .i64 ((someAt j s q).2[q + belowN (someAt j s q).1 (j - q)]?.getD 0 : Nat))).setCell (q + belowN (someAt j s q).1 (j - q)) (.int .i64 ((someAt j s q).2[q]?.getD 0 : Nat))
              rw [ints_set, ints_set] at this
              exact this.drew
            · exact ((HF2.out.setCell (by intro h; exact absurd h (Nat.lt_irrefl _)) _).setCell (by intro h; exact absurd h (Nat.lt_irrefl _)) _).drew
          case measure => simp [intOf]; omega
        · have eq : q = k := by omega
          subst eq
          have hsl : SlAt (fun i => w.heap.size ≤ i) wr (.slice (some ⟨w.heap.size, 0, none⟩) q j) ((someL j s q).map fun (i : Nat) => .int .i64 i) := by
            have hl := someL_length j s q
            have hm : min q j = q := by omega
            refine ⟨_, j, by simp [hl, hm], ⟨fun h => by simp at h, by simp [hl, hm]; omega⟩, fun _ => ⟨w.heap.size, 0, rfl, Nat.le_refl _, HB1.out.lt, fun i hi => ?_⟩⟩
            simp only [List.length_map, hl, hm] at hi
            have hlen := someAt_length j s q
            rw [Nat.zero_add, HB1.out.cell i (ints_get _ _ (by omega))]
            simp [someL, hm, List.getElem?_eq_getElem (show i < (someAt j s q).2.length by omega)]
          have HSL := Lib.hid hsl
          clear hsl
          go_wp2_with fail
          refine (clone_int HSL.out (by simp [Value.oneCell']) (by have := someL_length j s q; simp; omega)).mono ?_
          rintro e w2 ⟨v', rfl, hf, ho⟩
          have HF2 : Hid (Fr (· = b) w w2) := HF1.out.transN hf
          have HS2 : Hid (SrcRep w2 b (someAt j s q).1) := HS1.out.fr hf id
          have hll := someL_length j s q
          have hle : (someL j s q).length ≤ 256 := by omega
          simp only [List.length_map] at ho
          have hlow : w.heap.size ≤ wr.heap.size := HF1.out.size
          obtain ⟨p', cp, rfl⟩ := ownsRow_slice ho
          have HO := Lib.hid ho
          have HLL := Lib.hid hll
          clear ho hf hll
          go_wp2_with fail
          refine (sort_own HO.out (by omega)).mono ?_
          rintro e w3 ⟨rfl, hf3, l', hm, hl3, ho3⟩
          have HF3 : Hid (Fr (· = b) w w3) := HF2.out.trans hf3 (fun i hi g => by omega)
          have HS3 : Hid (SrcRep w3 b (someAt j s q).1) := HS2.out.fr hf3 (by omega)
          have HO3 : Hid (SlAt (fun i => w.heap.size ≤ i) w3 (.slice p' (someL j s q).length cp) (l'.map fun (i : Nat) => .int .i64 i)) := (SlAt.owned ho3).mono fun k hk => Nat.le_trans hlow hk
          have HM := Lib.hid hm
          have HL3 := Lib.hid hl3
          clear hm hf3 ho3 hl3
          go_wp2
          go_ret
          exact ⟨_, l', rfl, HF3.out, HS3.out, HO3.out, HM.out, by rw [HL3.out]; exact hle⟩
end Go.Proofs.YtamdmkjejpkbiaaGreatDoor
