/- Rows of bits in memory: what the functions of package vec do. -/
import Derived.Test.YtamdmkjejpkbiaaGreatDoorProg
import Derived.Test.YtamdmkjejpkbiaaGreatDoorRandP
import Derived.Test.YtamdmkjejpkbiaaGreatDoorMem
import Derived.RegionTactic
import Derived.Deep.QuietTactic
import Derived.BigQuiet
import Derived.IntWalk
import Derived.Lib.Hide
import Derived.Test.YtamdmkjejpkbiaaGreatDoorShelf
import Derived.Test.YtamdmkjejpkbiaaGreatDoorClone
import Derived.Deep.RegionHeld3
import Derived.RegionCalls
namespace Go.Proofs.YtamdmkjejpkbiaaGreatDoor
open Go Go.RowKit Go.Proofs

/-- A row of n bits: its header at block bv, its words at block bw. -/
def VecRep (w : World) (bv bw n x : Nat) : Prop :=
  ∃ cap c, Blk w bv #[.int .i64 n, .slice (some ⟨bw, 0, none⟩) (wds n) cap] 122 ∧ Blk w bw c 31 ∧
    (∀ j, j < wds n → c[j]? = some (.int .u64 (word x j))) ∧ x < 2 ^ n ∧ 1 ≤ n ∧ n ≤ 256 ∧ wds n ≤ cap

theorem VecRep.lt {w : World} {bv bw n x : Nat} (h : VecRep w bv bw n x) : x < 2 ^ n := by obtain ⟨_, _, _, _, _, h, _⟩ := h; exact h
theorem VecRep.ltv {w : World} {bv bw n x : Nat} (h : VecRep w bv bw n x) : bv < w.heap.size := by obtain ⟨_, _, h, _⟩ := h; exact h.lt
theorem VecRep.ltw {w : World} {bv bw n x : Nat} (h : VecRep w bv bw n x) : bw < w.heap.size := by obtain ⟨_, _, _, h, _⟩ := h; exact h.lt
theorem VecRep.ne {w : World} {bv bw n x bv' bw' n' x' : Nat} (h : VecRep w bv bw n x) (h' : VecRep w bv' bw' n' x') : bv ≠ bw' := by
  obtain ⟨_, _, h, _⟩ := h; obtain ⟨_, _, _, h', _⟩ := h'; exact h.ne h' (by decide)
theorem VecRep.eq {w w' : World} {bv bw n x : Nat} (h : VecRep w bv bw n x) (ev : w'.heap[bv]? = w.heap[bv]?) (ew : w'.heap[bw]? = w.heap[bw]?) : VecRep w' bv bw n x := by
  obtain ⟨cap, c, h1, h2, h3⟩ := h
  exact ⟨cap, c, h1.eq ev, h2.eq ew, h3⟩
theorem VecRep.fr {w w' : World} {bv bw n x : Nat} {F : Nat → Prop} (h : VecRep w bv bw n x) (hf : Fr F w w') (hv : ¬ F bv) (hw : ¬ F bw) : VecRep w' bv bw n x :=
  h.eq (hf.block bv h.ltv hv) (hf.block bw h.ltw hw)
theorem VecRep.own {w w' : World} {bv bw n x base : Nat} {e : TypeId} {size : Nat} {v : Value} {m : Nat} {xs : List Value} (h : VecRep w bv bw n x) (ho : w.ownsRow base e size v m xs) (hf : Fr (fun k => v.ownBlock = some k) w w') (h1 : 122 ≠ e) (h2 : 31 ≠ e) : VecRep w' bv bw n x := by
  obtain ⟨cap, c, a1, a2, a3⟩ := h
  exact ⟨cap, c, a1.own ho hf h1, a2.own ho hf h2, a3⟩
theorem VecRep.frN {w w' : World} {bv bw n x : Nat} (h : VecRep w bv bw n x) (hf : Fr NoF w w') : VecRep w' bv bw n x := h.fr hf id id

theorem u64_pow (k : Nat) (hk : k < 64) : IntKind.u64.wrap ((2 : Int) ^ k) = ((2 ^ k : Nat) : Int) := by
  rw [IntKind.wrap_u64]
  have h : 2 ^ k < 18446744073709551616 := Nat.pow_lt_pow_right (n := 64) (by omega) hk
  have e : ((2 : Int) ^ k) = ((2 ^ k : Nat) : Int) := by simp
  rw [e]
  generalize 2 ^ k = y at h
  omega

theorem word_on (x i : Nat) : bits .or .u64 (bits .andNot .u64 (word x (i / 64)) (IntKind.u64.wrap ((2 : Int) ^ (i % 64)))) (IntKind.u64.wrap ((2 : Int) ^ (i % 64))) = (word (x ||| 2 ^ i) (i / 64) : Int) := by
  have hk : i % 64 < 64 := Nat.mod_lt _ (by decide)
  have hp : 2 ^ (i % 64) < 18446744073709551616 := Nat.pow_lt_pow_right (n := 64) (by omega) hk
  have ha : word x (i / 64) &&& (18446744073709551615 - 2 ^ (i % 64)) < 18446744073709551616 := Nat.and_lt_two_pow (n := 64) _ (Nat.lt_of_le_of_lt (Nat.sub_le _ _) (by decide))
  rw [u64_pow _ hk, u64_andNot_nat _ _ (word_lt _ _) hp, u64_or_nat _ _ ha hp, word_set]
  congr 1
  apply Nat.eq_of_testBit_eq
  intro k
  rw [Nat.testBit_or, Nat.testBit_or, Nat.testBit_and]
  by_cases h : (2 ^ (i % 64)).testBit k = true
  · simp [h]
  · have e : (18446744073709551615 - 2 ^ (i % 64)).testBit k = (decide (k < 64) && !(2 ^ (i % 64)).testBit k) := by
      rw [show (18446744073709551615 - 2 ^ (i % 64)) = 2 ^ 64 - (2 ^ (i % 64) + 1) by omega]
      exact Nat.testBit_two_pow_sub_succ (n := 64) hp k
    simp only [Bool.not_eq_true] at h
    rw [e, h]
    by_cases hk : k < 64
    · simp [hk]
    · rw [word_bit_big _ _ _ hk]; simp

theorem word_off (x i : Nat) (h : x.testBit i = false) : bits .andNot .u64 (word x (i / 64)) (IntKind.u64.wrap ((2 : Int) ^ (i % 64))) = (word x (i / 64) : Int) := by
  have hk : i % 64 < 64 := Nat.mod_lt _ (by decide)
  have hp : 2 ^ (i % 64) < 18446744073709551616 := Nat.pow_lt_pow_right (n := 64) (by omega) hk
  rw [u64_pow _ hk, u64_andNot_nat _ _ (word_lt _ _) hp, word_clear x i h]

theorem word_hasI (x i : Nat) : (bits .and .u64 ((word x (i / 64) : Int) / (2 ^ (i % 64))) 1 == 1) = x.testBit i := by
  have e : ((word x (i / 64) : Int) / (2 ^ (i % 64))) = ((word x (i / 64) / 2 ^ (i % 64) : Nat) : Int) := by simp
  have hlt : word x (i / 64) / 2 ^ (i % 64) < 18446744073709551616 := Nat.lt_of_le_of_lt (Nat.div_le_self _ _) (word_lt _ _)
  rw [e, show (1 : Int) = ((1 : Nat) : Int) from rfl, u64_and_nat _ _ hlt (by decide), Nat.and_one_is_mod, word_has]
  cases x.testBit i <;> decide

/-- A bit is set. -/
theorem vec_set_on {w : World} {bv bw n x : Nat} (h : VecRep w bv bw n x) {i : Nat} (hi : i < n) :
    Calls Tryz.prog 41 #[.pointer (some ⟨bv, 0, none⟩), .int .i64 i, .bool true] w fun e w' =>
      e = .returned (.bool true) ∧ Fr (· = bw) w w' ∧ VecRep w' bv bw n (x ||| 2 ^ i) := by
  obtain ⟨cap, c, h1, h2, h3, hx, hn1, hn2, hcap⟩ := h
  have h0 : w.cell? ⟨bv, 0, none⟩ = some (.int .i64 n) := h1.cell 0 rfl
  have h1' : w.cell? ⟨bv, 1, none⟩ = some (.slice (some ⟨bw, 0, none⟩) (wds n) cap) := h1.cell 1 rfl
  have hL : i / 64 < wds n := div64_lt hi
  have hc : w.cell? ⟨bw, i / 64, none⟩ = some (.int .u64 (word x (i / 64))) := h2.cell _ (h3 _ hL)
  have hf : w.frozen? ⟨bw, i / 64, none⟩ = false := h2.frozen _
  have hb : bv ≠ bw := h1.ne h2 (by decide)
  have hi2 : i < 256 := by omega
  go_enter Tryz.func41, Tryz.ntmps41
  go_wp2
  go_ret
  refine ⟨rfl, ((Fr.refl _ _).setCell (by intro _; rfl) _).setCell (by intro _; rfl) _, cap, _, (h1.setCell_ne hb.symm _).setCell_ne hb.symm _, (h2.setCell _ _).setCell _ _, ?_, or_pow_lt hx hi, hn1, hn2, hcap⟩
  intro j hj
  have hs : i / 64 < c.size := by
    rcases Nat.lt_or_ge (i / 64) c.size with h | h
    · exact h
    · have := h3 _ hL; rw [Array.getElem?_eq_none h] at this; simp at this
  by_cases e : j = i / 64
  · subst e
    rw [Array.getElem?_setIfInBounds_self_of_lt (by simpa using hs), word_on]
  · rw [Array.getElem?_setIfInBounds_ne (by omega), Array.getElem?_setIfInBounds_ne (by omega), word_set_other _ _ _ e, h3 j hj]

/-- A bit that is not set is unset: nothing turns. -/
theorem vec_set_off {w : World} {bv bw n x : Nat} (h : VecRep w bv bw n x) {i : Nat} (hi : i < n) (hb : x.testBit i = false) :
    Calls Tryz.prog 41 #[.pointer (some ⟨bv, 0, none⟩), .int .i64 i, .bool false] w fun e w' =>
      e = .returned (.bool true) ∧ Fr (· = bw) w w' ∧ VecRep w' bv bw n x := by
  have HB := Lib.hid hb
  clear hb
  obtain ⟨cap, c, h1, h2, h3, hx, hn1, hn2, hcap⟩ := h
  have h0 : w.cell? ⟨bv, 0, none⟩ = some (.int .i64 n) := h1.cell 0 rfl
  have h1' : w.cell? ⟨bv, 1, none⟩ = some (.slice (some ⟨bw, 0, none⟩) (wds n) cap) := h1.cell 1 rfl
  have hL : i / 64 < wds n := div64_lt hi
  have hc : w.cell? ⟨bw, i / 64, none⟩ = some (.int .u64 (word x (i / 64))) := h2.cell _ (h3 _ hL)
  have hf : w.frozen? ⟨bw, i / 64, none⟩ = false := h2.frozen _
  have hb : bv ≠ bw := h1.ne h2 (by decide)
  have hi2 : i < 256 := by omega
  go_enter Tryz.func41, Tryz.ntmps41
  go_wp2
  go_ret
  refine ⟨rfl, (Fr.refl _ _).setCell (by intro _; rfl) _, cap, _, h1.setCell_ne hb.symm _, h2.setCell _ _, ?_, hx, hn1, hn2, hcap⟩
  intro j hj
  have hs : i / 64 < c.size := by
    rcases Nat.lt_or_ge (i / 64) c.size with h | h
    · exact h
    · have := h3 _ hL; rw [Array.getElem?_eq_none h] at this; simp at this
  by_cases e : j = i / 64
  · subst e
    rw [Array.getElem?_setIfInBounds_self_of_lt hs, word_off _ _ HB.out]
  · rw [Array.getElem?_setIfInBounds_ne (by omega), h3 j hj]

/-- A bit is read. -/
theorem vec_has {w : World} {bv bw n x : Nat} (h : VecRep w bv bw n x) {i : Nat} (hi : i < n) :
    Calls Tryz.prog 45 #[.pointer (some ⟨bv, 0, none⟩), .int .i64 i] w fun e w' =>
      e = .returned (.bool (x.testBit i)) ∧ w = w' := by
  obtain ⟨cap, c, h1, h2, h3, hx, hn1, hn2, hcap⟩ := h
  have h0 : w.cell? ⟨bv, 0, none⟩ = some (.int .i64 n) := h1.cell 0 rfl
  have h1' : w.cell? ⟨bv, 1, none⟩ = some (.slice (some ⟨bw, 0, none⟩) (wds n) cap) := h1.cell 1 rfl
  have hL : i / 64 < wds n := div64_lt hi
  have hc : w.cell? ⟨bw, i / 64, none⟩ = some (.int .u64 (word x (i / 64))) := h2.cell _ (h3 _ hL)
  have hi2 : i < 256 := by omega
  go_enter Tryz.func45, Tryz.ntmps45
  go_wp2
  go_ret
  exact ⟨by rw [word_hasI]; rfl, rfl⟩

/-- Its length. -/
theorem vec_len {w : World} {bv bw n x : Nat} (h : VecRep w bv bw n x) :
    Calls Tryz.prog 57 #[.pointer (some ⟨bv, 0, none⟩)] w fun e w' => e = .returned (.int .i64 n) ∧ w = w' := by
  obtain ⟨cap, c, h1, h2, h3, hx, hn1, hn2, hcap⟩ := h
  have h0 : w.cell? ⟨bv, 0, none⟩ = some (.int .i64 n) := h1.cell 0 rfl
  go_enter Tryz.func57, Tryz.ntmps57
  go_wp2
  go_ret
  exact ⟨rfl, rfl⟩

theorem info_u64 : (Tryz.prog.info? 31).map (fun i => (i.zero, i.size, i.bytes)) = some (some (.int .u64 0), 1, 8) := by kernel_rfl

theorem make_u64 (l : Int) (h0 : 0 ≤ l) (h : l ≤ 1000000) (w : World) :
    (Instr.makeSlice 120 (.int .i64 l) (.int .i64 l)).run Tryz.prog w = .ok (.slice (some ⟨w.heap.size, 0, none⟩) l.toNat l.toNat) (w.alloc (.cells (Array.replicate l.toNat (.int .u64 0)) 31)) := by
  obtain ⟨i0, hi, hz0, hz1, hz2⟩ := info_parts info_u64
  exact run_make_flat _ _ i0 _ Tryz.underlying120 hi hz0 rfl hz1 l h0 (by rw [hz2]; omega) (by omega) w

set_option maxRecDepth 100000 in
/-- A new row. -/
theorem vec_new (w : World) (n : Nat) (h1 : 1 ≤ n) (h2 : n ≤ 256) :
    Calls Tryz.prog 58 #[.int .i64 n] w fun e w' => ∃ bv bw, e = .returned (.pointer (some ⟨bv, 0, none⟩)) ∧ Fr NoF w w' ∧ VecRep w' bv bw n 0 ∧ w.heap.size ≤ bv ∧ w.heap.size ≤ bw := by
  have hmk := make_u64 (((n : Int) + 64 - 1) / 64) (by omega) (by omega)
  go_enter Tryz.func58, Tryz.ntmps58
  have e : (((n : Int) + 64 - 1) / 64).toNat = wds n := by unfold wds; omega
  rw [e] at hmk
  clear e
  go_wp2
  go_ret
  refine ⟨_, _, rfl, ((Fr.refl _ _).alloc _).alloc _, ⟨_, _, Blk.newAt (by simp) _ _, (Blk.new _ _ _).alloc _, fun j hj => ?_, Nat.two_pow_pos n, h1, h2, Nat.le_refl _⟩, by simp, Nat.le_refl _⟩
  rw [get_replicate _ hj, word_zero]; rfl

set_option maxRecDepth 100000 in
/-- A row of which some bits are set. -/
theorem vec_of (w : World) (n : Nat) (h1 : 1 ≤ n) (h2 : n ≤ 256) (l : List Nat) (hl : ∀ i, i ∈ l → i < n) (v : Value) (F : Nat → Prop) (hs : SlAt F w v (l.map fun (i : Nat) => .int .i64 i)) (hbig : l.length < 1000000) :
    Calls Tryz.prog 39 #[.int .i64 n, v] w fun e w' => ∃ bv bw, e = .returned (.pointer (some ⟨bv, 0, none⟩)) ∧ Fr NoF w w' ∧ VecRep w' bv bw n (ofBits l) ∧ w.heap.size ≤ bv ∧ w.heap.size ≤ bw := by
  obtain ⟨p, cap, rfl, _, hs⟩ := hs
  simp only [List.length_map] at hs ⊢
  have HS := Lib.hid hs
  have HL := Lib.hid hl
  clear hs hl
  go_enter Tryz.func39, Tryz.ntmps39
  go_wp2_with fail
  refine (vec_new _ n h1 h2).mono ?_
  rintro e w1 ⟨bv, bw, rfl, hfr, hv, hbv, hbw⟩
  have HV := Lib.hid hv
  have HF := Lib.hid hfr
  clear hv hfr
  go_wp2_with fail
  go_loopw [12] (fun i wr => ∃ k : Nat, k ≤ l.length ∧ i = .int .i64 k ∧ Hid (VecRep wr bv bw n (ofBits (l.take k))) ∧ Hid (Fr NoF w wr)) (fun i _ => l.length - (intOf i).toNat)
  case atStart => exact ⟨0, Nat.zero_le _, rfl, HV, HF⟩
  case round =>
    obtain ⟨k, hk, rfl, hv, hf⟩ := hrel
    by_cases hlt : k < l.length
    · obtain ⟨b, o, rfl, hFb, hb, hc⟩ := HS.out (by intro h; simp at h; subst h; simp at hlt)
      have hck : wr.cell? ⟨b, o + k, none⟩ = some (.int .i64 (l[k] : Nat)) := by
        rw [World.cell?_of_block (w := w) (hf.out.block b hb id)]
        simp only [List.getElem_map] at hc
        exact hc k (by simpa using hlt)
      clear hc
      go_wp2_with fail
      refine (vec_set_on hv.out (HL.out _ (List.getElem_mem hlt))).mono ?_
      rintro e w2 ⟨rfl, hf2, hv2⟩
      have HV2 : Hid (VecRep w2 bv bw n (ofBits (l.take (k + 1)))) := by
        rw [List.take_succ_eq_append_getElem hlt, ofBits_snoc]; exact hv2
      have HF2 : Hid (Fr NoF w w2) := hf.out.trans hf2 (fun i hi e => by subst e; omega)
      clear hv2 hf2
      go_wp2
      go_roundw
      case rel => exact ⟨k + 1, by omega, by go_num, HV2, HF2⟩
      case measure => simp [intOf]; omega
    · go_wp2
      go_ret
      refine ⟨bv, bw, rfl, hf.out, ?_, hbv, hbw⟩
      have := hv.out
      rwa [List.take_of_length_le (by omega)] at this

set_option maxRecDepth 100000 in
/-- The sum of two rows goes into the first. -/
theorem vec_xor {w : World} {bv bw n x bv' bw' x' : Nat} (h : VecRep w bv bw n x) (h' : VecRep w bv' bw' n x') (hne : bw ≠ bw') :
    Calls Tryz.prog 66 #[.pointer (some ⟨bv, 0, none⟩), .pointer (some ⟨bv', 0, none⟩)] w fun e w' =>
      e = .returned (.bool true) ∧ Fr (· = bw) w w' ∧ VecRep w' bv bw n (x ^^^ x') := by
  have nv : bv' ≠ bw := (h'.ne h)
  have nb : bv ≠ bw := (h.ne h)
  obtain ⟨cap, c, h1, h2, h3, hx, hn1, hn2, hcap⟩ := h
  obtain ⟨cap', c', h1', h2', h3', hx', _, _, _⟩ := h'
  have a0 : w.cell? ⟨bv, 0, none⟩ = some (.int .i64 n) := h1.cell 0 rfl
  have a0' : w.cell? ⟨bv', 0, none⟩ = some (.int .i64 n) := h1'.cell 0 rfl
  have a1 : w.cell? ⟨bv, 1, none⟩ = some (.slice (some ⟨bw, 0, none⟩) (wds n) cap) := h1.cell 1 rfl
  have hw : wds n ≤ 4 := by unfold wds; omega
  go_enter Tryz.func66, Tryz.ntmps66
  go_wp2_with fail
  go_quiet (fail)
  go_wp2
  have HX := Lib.hid h3
  have HX' := Lib.hid h3'
  have B1 := Lib.hid h1
  have B2 := Lib.hid h2
  have B1' := Lib.hid h1'
  have B2' := Lib.hid h2'
  clear h3 h3' h1 h2 h1' h2' a0 a0' a1
  go_loopw [28] (fun i wr => ∃ (k : Nat) (ck : Array Value), k ≤ wds n ∧ i = .int .i64 k ∧ Hid (Fr (· = bw) w wr) ∧ Hid (Blk wr bw ck 31) ∧ Hid (∀ j, j < wds n → ck[j]? = some (.int .u64 (if j < k then word (x ^^^ x') j else word x j)))) (fun i _ => wds n - (intOf i).toNat)
  case atStart => exact ⟨0, c, Nat.zero_le _, rfl, (Fr.refl _ _).drewN _, B2.out.drewN _, fun j hj => by rw [if_neg (by omega)]; exact HX.out j hj⟩
  case round =>
    obtain ⟨k, ck, hk, rfl, HF, HB, HC⟩ := hrel
    by_cases hlt : k < wds n
    · have a1 : wr.cell? ⟨bv, 1, none⟩ = some (.slice (some ⟨bw, 0, none⟩) (wds n) cap) := (B1.out.fr HF.out nb).cell 1 rfl
      have a1' : wr.cell? ⟨bv', 1, none⟩ = some (.slice (some ⟨bw', 0, none⟩) (wds n) cap') := (B1'.out.fr HF.out nv).cell 1 rfl
      have a2 : wr.cell? ⟨bw, k, none⟩ = some (.int .u64 (word x k)) := HB.out.cell k (by rw [HC.out k hlt, if_neg (by omega)])
      have a2' : wr.cell? ⟨bw', k, none⟩ = some (.int .u64 (word x' k)) := (B2'.out.fr HF.out (Ne.symm hne)).cell k (HX'.out k hlt)
      have f2 : wr.frozen? ⟨bw, k, none⟩ = false := HB.out.frozen k
      go_wp2_with fail
      go_region
      go_wp2
      go_roundw
      case rel =>
        refine ⟨k + 1, _, by omega, by go_num, (HF.out.setCell (by intro _; rfl) _).drew, (HB.out.setCell k _).drew, fun j hj => ?_⟩
        have hs : k < ck.size := HB.out.size_of (by rw [HC.out k hlt])
        by_cases e : j = k
        · subst e
          rw [Array.getElem?_setIfInBounds_self_of_lt hs, if_pos (by omega), word_xor, u64_xor_nat _ _ (word_lt _ _) (word_lt _ _)]
        · rw [Array.getElem?_setIfInBounds_ne (by omega), HC.out j hj]
          by_cases e2 : j < k
          · rw [if_pos e2, if_pos (by omega)]
          · rw [if_neg e2, if_neg (by omega)]
      case measure => simp [intOf]; omega
    · go_wp2
      go_ret
      refine ⟨rfl, HF.out, cap, ck, B1.out.fr HF.out nb, HB.out, fun j hj => ?_, Nat.xor_lt_two_pow hx hx', hn1, hn2, hcap⟩
      rw [HC.out j hj, if_pos (by omega)]

/-- The table that package math/bits reads; the variables' blocks lie. -/
def Env (w : World) : Prop := gl ≤ w.heap.size ∧ TabAt 0 Lib.deBruijn64tab w
theorem Env.of {w w' : World} {F : Nat → Prop} (h : Env w) (hf : Fr F w w') (hF : ∀ k, F k → gl ≤ k) : Env w' :=
  ⟨Nat.le_trans h.1 hf.size, fun j hj => by
    have hb : (0 : Nat) < w.heap.size := Nat.lt_of_lt_of_le (by decide) h.1
    have h0 : ¬ F 0 := fun f => absurd (hF 0 f) (by decide)
    rw [World.cell?_of_block (w := w) (hf.block 0 hb h0)]; exact h.2 j hj⟩
theorem Env.frN {w w' : World} (h : Env w) (hf : Fr NoF w w') : Env w' := h.of hf fun _ f => f.elim
theorem Env.frI {w w' : World} {F : Nat → Prop} (h : Env w) (hf : Fr F w w') (hi : InF F w) : Env w' := h.of hf fun k f => (hi k f).1

theorem ctz_low {y : Nat} (h0 : y ≠ 0) (hy : y < 18446744073709551616) : Lib.ctz 64 y = low y := by
  have hc : Lib.ctz 64 y = Lib.ctzFrom 64 y := by simp [Lib.ctz, h0]
  obtain ⟨m, hm, hk⟩ := Lib.ctzFrom_spec 64 y (by omega) hy
  rw [hc]
  symm
  generalize Lib.ctzFrom 64 y = k at hm hk
  subst hm
  apply low_uniq
  · rw [Nat.testBit_two_pow_mul]
    simp
  · intro j hj
    rw [Nat.testBit_two_pow_mul]
    simp
    omega

theorem tz64 (y : Nat) (h0 : y ≠ 0) (hy : y < 18446744073709551616) (w : World) (he : Env w) :
    Calls Tryz.prog 65 #[.int .u64 y] w fun e w' => e = .returned (.int .i64 (low y)) ∧ w = w' := by
  rw [← ctz_low h0 hy]
  exact (Any7.bits_TrailingZeros64 Tryz.lays29 y hy w fun _ => he.2).mono fun e w' h => ⟨h.1, h.2.symm⟩

set_option maxRecDepth 100000 in
/-- The lowest bit. -/
theorem vec_first {w : World} {bv bw n x : Nat} (h : VecRep w bv bw n x) (h0 : x ≠ 0) (he : Env w) :
    Calls Tryz.prog 44 #[.pointer (some ⟨bv, 0, none⟩)] w fun e w' => e = .returned (.int .i64 (low x)) ∧ w = w' := by
  obtain ⟨cap, c, h1, h2, h3, hx, hn1, hn2, hcap⟩ := h
  have a1 : w.cell? ⟨bv, 1, none⟩ = some (.slice (some ⟨bw, 0, none⟩) (wds n) cap) := h1.cell 1 rfl
  have hw : wds n ≤ 4 := by unfold wds; omega
  have H0 := Lib.hid h0
  have HX := Lib.hid h3
  clear h0 h3
  go_enter Tryz.func44, Tryz.ntmps44
  go_wp2_with fail
  go_loop [12] (fun i => ∃ k : Nat, k ≤ wds n ∧ i = .int .i64 k ∧ Hid (∀ i, i < k → word x i = 0)) (fun i => wds n - (intOf i).toNat)
  case atStart => exact ⟨0, Nat.zero_le _, rfl, fun i hi => by omega⟩
  case round =>
    obtain ⟨k, hk, rfl, HZ⟩ := hrel
    by_cases hlt : k < wds n
    · have a2 : w.cell? ⟨bw, k, none⟩ = some (.int .u64 (word x k)) := h2.cell k (HX.out k hlt)
      by_cases hz : word x k = 0
      · rw [hz] at a2
        have HZ2 : Hid (∀ i, i < k + 1 → word x i = 0) := fun i hi => by
          rcases Nat.lt_succ_iff_lt_or_eq.1 hi with h | h
          · exact HZ.out i h
          · subst h; exact hz
        clear hz
        go_wp2_with fail
        go_round
        case rel => exact ⟨k + 1, by omega, by go_num, HZ2⟩
        case measure => simp [intOf]; omega
      · have hne : (((word x k : Nat) : Int) != 0) = true := by simp; exact hz
        have hlo := low_word hz HZ.out
        have HL := Lib.hid hlo
        have HN := Lib.hid hz
        have hl2 : low (word x k) < 64 := low_lt (n := 64) hz (word_lt x k)
        clear hz hlo
        go_wp2_with fail
        refine (tz64 _ HN.out (word_lt x k) _ he).mono ?_
        rintro e w' ⟨rfl, rfl⟩
        go_wp2
        go_ret
        refine ⟨?_, rfl⟩
        rw [HL.out]
        go_num
    · exact (H0.out (ne_zero_word hx fun j hj => HZ.out j (by omega))).elim

set_option maxRecDepth 100000 in
/-- No bit is set. -/
theorem vec_first_none {w : World} {bv bw n : Nat} (h : VecRep w bv bw n 0) :
    Calls Tryz.prog 44 #[.pointer (some ⟨bv, 0, none⟩)] w fun e w' => e = .returned (.int .i64 (-1)) ∧ w = w' := by
  obtain ⟨cap, c, h1, h2, h3, hx, hn1, hn2, hcap⟩ := h
  have a1 : w.cell? ⟨bv, 1, none⟩ = some (.slice (some ⟨bw, 0, none⟩) (wds n) cap) := h1.cell 1 rfl
  have hw : wds n ≤ 4 := by unfold wds; omega
  have HX := Lib.hid h3
  clear h3
  go_enter Tryz.func44, Tryz.ntmps44
  go_wp2_with fail
  go_loop [12] (fun i => ∃ k : Nat, k ≤ wds n ∧ i = .int .i64 k) (fun i => wds n - (intOf i).toNat)
  case atStart => exact ⟨0, Nat.zero_le _, rfl⟩
  case round =>
    obtain ⟨k, hk, rfl⟩ := hrel
    by_cases hlt : k < wds n
    · have a2 : w.cell? ⟨bw, k, none⟩ = some (.int .u64 (0 : Nat)) := h2.cell k (by rw [HX.out k hlt, word_zero])
      go_wp2_with fail
      go_round
      case rel => exact ⟨k + 1, by omega, by go_num⟩
      case measure => simp [intOf]; omega
    · go_wp2
      go_ret
      exact ⟨rfl, rfl⟩

theorem info_int : (Tryz.prog.info? 3).map (fun i => (i.zero, i.size, i.bytes)) = some (some (.int .i64 0), 1, 8) := by kernel_rfl

theorem natInt_inj (l : List Nat) : (l.map fun (i : Nat) => Value.int .i64 i).length = l.length := List.length_map _

set_option maxRecDepth 100000 in
/-- The bits that are set, as a list. -/
theorem vec_list {w : World} {bv bw n x : Nat} (h : VecRep w bv bw n x) :
    Calls Tryz.prog 37 #[.pointer (some ⟨bv, 0, none⟩)] w fun e w' => ∃ v, e = .returned v ∧ Fr NoF w w' ∧
      w'.ownsRow w.heap.size 3 1 v (bitsOf n x).length ((bitsOf n x).map fun (i : Nat) => .int .i64 i) := by
  have hn : n ≤ 256 := by obtain ⟨_, _, _, _, _, _, _, h, _⟩ := h; exact h
  have HV := Lib.hid h
  clear h
  go_enter Tryz.func37, Tryz.ntmps37
  go_wp2_with fail
  refine (vec_len HV.out).mono ?_
  rintro e w' ⟨rfl, rfl⟩
  go_wp2_with fail
  go_loopw [3, 7] (fun v i wr => ∃ k : Nat, k ≤ n ∧ i = .int .i64 k ∧ Hid (Fr NoF w wr) ∧ Hid (wr.ownsRow w.heap.size 3 1 v (bitsOf k x).length ((bitsOf k x).map fun (i : Nat) => .int .i64 i))) (fun _ i _ => n - (intOf i).toNat)
  case atStart => exact ⟨0, Nat.zero_le _, rfl, Fr.refl _ _, ⟨rfl, .inl ⟨rfl, rfl⟩⟩⟩
  case round =>
    obtain ⟨k, hk, rfl, HF, HO⟩ := hrel
    by_cases hlt : k < n
    · have hv := HV.out.frN HF.out
      have hle := bitsOf_le k x
      go_wp2_with fail
      refine (vec_has hv hlt).mono ?_
      rintro e w' ⟨rfl, rfl⟩
      by_cases hb : x.testBit k = true
      · have hs := bitsOf_succ k x
        rw [if_pos hb] at hs
        have HS := Lib.hid hs
        clear hs
        go_wp2_with (at_builtin; refine wpList_append_one _ rfl _ _ 86 rfl w.heap.size 3 _ 8 Tryz.underlying86 info_int rfl _ _ _ rfl HO.out _ rfl rfl (by omega) (by decide) HF.out.size ?_)
        intro v' w' ho hf
        have HF2 : Hid (Fr NoF w w') := HF.out.transB hf
        have HO2 : Hid (w'.ownsRow w.heap.size 3 1 v' (bitsOf (k + 1) x).length ((bitsOf (k + 1) x).map fun (i : Nat) => .int .i64 i)) := by
          rw [HS.out, List.map_append, List.length_append]; exact ho
        clear ho hf
        go_wp2_with fail
        go_roundw
        case rel => exact ⟨k + 1, by omega, by go_num, HF2, HO2⟩
        case measure => simp [intOf]; omega
      · simp only [Bool.not_eq_true] at hb
        have hs := bitsOf_succ k x
        rw [hb] at hs
        simp only [Bool.false_eq_true, if_false, List.append_nil] at hs
        rw [← hs] at HO
        clear hs
        go_wp2_with fail
        go_roundw
        case rel => exact ⟨k + 1, by omega, by go_num, HF, HO⟩
        case measure => simp [intOf]; omega
    · have e : k = n := by omega
      subst e
      go_wp2
      go_ret
      exact ⟨_, rfl, HF.out, HO.out⟩

/-- The words of a row, as they lie. -/
def wordsOf (n x : Nat) : List Value := (List.range (wds n)).map fun j => .int .u64 (word x j)

theorem VecRep.words {w : World} {bv bw n x : Nat} (h : VecRep w bv bw n x) : ∃ cap, w.cell? ⟨bv, 0, none⟩ = some (.int .i64 n) ∧ w.cell? ⟨bv, 1, none⟩ = some (.slice (some ⟨bw, 0, none⟩) (wds n) cap) ∧
    SlAt (· = bw) w (.slice (some ⟨bw, 0, none⟩) (wds n) cap) (wordsOf n x) := by
  obtain ⟨cap, c, h1, h2, h3, _, _, _, hcap⟩ := h
  refine ⟨cap, h1.cell 0 rfl, h1.cell 1 rfl, _, cap, by simp [wordsOf], ⟨fun h => by simp at h, by simpa [wordsOf] using hcap⟩, fun _ => ⟨bw, 0, rfl, rfl, h2.lt, fun j hj => ?_⟩⟩
  simp only [wordsOf, List.length_map, List.length_range] at hj
  rw [Nat.zero_add, h2.cell j (h3 j hj)]
  simp [wordsOf]

theorem VecRep.of {w : World} {bv n x : Nat} {v : Value} {B : Nat} (hb : Blk w bv #[.int .i64 n, v] 122) (ho : w.ownsRow B 31 1 v (wds n) (wordsOf n x)) (hx : x < 2 ^ n) (h1 : 1 ≤ n) (h2 : n ≤ 256) :
    ∃ bw, B ≤ bw ∧ VecRep w bv bw n x := by
  obtain ⟨hl, ho⟩ := ho
  have h0 : 0 < wds n := by unfold wds; omega
  rcases ho with ⟨rfl, e⟩ | ⟨g, cap, cur, rfl, hg, hh, h3, h4, h5, h6⟩
  · omega
  · refine ⟨g, hg, cap, cur, hb, hh, fun j hj => ?_, hx, h1, h2, by omega⟩
    have e : (wordsOf n x)[j]? = some (.int .u64 (word x j)) := by simp [wordsOf, hj]
    rw [← h6, List.getElem?_take_of_lt (by omega)] at e
    simpa using e

set_option maxRecDepth 100000 in
/-- A row that is like it. -/
theorem vec_copy {w : World} {bv bw n x : Nat} (h : VecRep w bv bw n x) :
    Calls Tryz.prog 64 #[.pointer (some ⟨bv, 0, none⟩)] w fun e w' => ∃ bv' bw', e = .returned (.pointer (some ⟨bv', 0, none⟩)) ∧ Fr NoF w w' ∧ VecRep w' bv' bw' n x ∧ w.heap.size ≤ bv' ∧ w.heap.size ≤ bw' := by
  obtain ⟨cap, a0, a1, hs⟩ := h.words
  have hw : wds n ≤ 4 := by obtain ⟨_, _, _, _, _, _, _, h⟩ := h; unfold wds; omega
  go_enter Tryz.func64, Tryz.ntmps64
  go_wp2_with fail
  go_region_held3 (fun w' => w'.cell? ⟨bv, 0, none⟩ = some (.int .i64 n) ∧ w'.cell? ⟨bv, 1, none⟩ = some (.slice (some ⟨bw, 0, none⟩) (wds n) cap)) (go_keep)
    (first | (go_at_call 81; refine (clone_u64 (SlAt.frN hs ((Fr.refl _ _).drew)) (by simp [wordsOf, Value.oneCell']) (by simp [wordsOf]; omega)).mono ?_; rintro e w1 ⟨v', rfl, hf, ho⟩; have e0 := hf.ofDrew.cellN a0; have e1 := hf.ofDrew.cellN a1; obtain ⟨p', cp, rfl⟩ := ownsRow_slice ho; have HO := Lib.hid ho; have HF := Lib.hid hf; clear ho hf))
  go_wp2
  go_ret
  have hl : (wordsOf n x).length = wds n := by simp [wordsOf]
  have ho := HO.out
  rw [hl] at ho ⊢
  obtain ⟨_, _, _, _, _, hx, h1, h2, _⟩ := h
  obtain ⟨bw', hbw, hr⟩ := VecRep.of (Blk.new w1 #[.int .i64 n, .slice p' (wds n) cp] 122) (ho.alloc _) hx h1 h2
  exact ⟨_, bw', rfl, HF.out.ofDrew.alloc _, hr, HF.out.size, hbw⟩
end Go.Proofs.YtamdmkjejpkbiaaGreatDoor
