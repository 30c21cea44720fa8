/- How many pieces a symbol sums: what the functions of package soliton compute. -/
import Derived.Test.YtamdmkjejpkbiaaGreatDoorRand
import Derived.Test.YtamdmkjejpkbiaaGreatDoorSolP
namespace Go.Proofs.YtamdmkjejpkbiaaGreatDoor
open Go Go.RowKit Go.Proofs

set_option maxRecDepth 100000 in
theorem root_any {w : World} (n : Nat) (h1 : 1 ≤ n) (h2 : n ≤ 80) :
    Calls Tryz.prog 115 #[.int .i64 n] w fun e w' => e = .returned (.int .i64 (rootN n)) ∧ w = w' := by
  have hmin : min (n : Int) 4294967295 = (n : Int) := by omega
  go_enter Tryz.func115, Tryz.ntmps115
  go_wp2_with fail
  go_loop [3, 4] (fun i j => ∃ lo hi : Nat, 1 ≤ lo ∧ lo ≤ hi ∧ hi ≤ n ∧ i = .int .i64 lo ∧ j = .int .i64 hi ∧ Hid (lo * lo ≤ n ∧ n < (hi + 1) * (hi + 1))) (fun i j => (intOf j - intOf i).toNat)
  case atStart => exact ⟨1, n, Nat.le_refl _, h1, Nat.le_refl _, rfl, rfl, by omega, by rw [Nat.add_mul]; omega⟩
  case round =>
    obtain ⟨lo, hi, a1, a2, a3, rfl, rfl, HR⟩ := hrel
    by_cases hlt : lo < hi
    · have hm : ∃ m : Nat, (hi : Int) - (hi - lo) / 2 = (m : Int) ∧ lo < m ∧ m ≤ hi := ⟨hi - (hi - lo) / 2, by omega, by omega, by omega⟩
      obtain ⟨m, em, m1, m2⟩ := hm
      obtain ⟨q, hq⟩ : ∃ q, q = n / m := ⟨_, rfl⟩
      have hqi : (n : Int) / (m : Int) = (q : Int) := by rw [hq, Int.natCast_ediv]
      have hqn : q ≤ n := by rw [hq]; exact Nat.div_le_self _ _
      have HQ := Lib.hid hq
      clear hq
      by_cases hc : m ≤ q
      · have HR2 : Hid (m * m ≤ n ∧ n < (hi + 1) * (hi + 1)) := ⟨(Nat.le_div_iff_mul_le (by omega)).1 (HQ.out ▸ hc), HR.out.2⟩
        go_wp2_with fail
        go_round
        case rel => exact ⟨m, hi, by omega, m2, a3, rfl, rfl, HR2⟩
        case measure => simp [intOf]; omega
      · have HR2 : Hid (lo * lo ≤ n ∧ n < (m - 1 + 1) * (m - 1 + 1)) := by
          refine ⟨HR.out.1, ?_⟩
          rw [show m - 1 + 1 = m by omega]
          rcases Nat.lt_or_ge n (m * m) with h | h
          · exact h
          · exact absurd (HQ.out ▸ (Nat.le_div_iff_mul_le (by omega)).2 h) hc
        go_wp2_with fail
        go_round
        case rel => exact ⟨lo, m - 1, a1, by omega, by omega, rfl, by go_num, HR2⟩
        case measure => simp [intOf]; omega
    · have e : hi = lo := by omega
      subst e
      have := rootN_uniq HR.out.1 HR.out.2
      go_wp2
      go_ret
      exact ⟨by rw [← this]; rfl, rfl⟩

/-- A table in memory that has not made its sums. -/
def TabRep (w : World) (b n : Nat) : Prop := Blk w b #[.int .i64 n, .int .u32 0, .int .i32 0, .int .u32 0, .slice none 0 0] 131

set_option maxRecDepth 100000 in
theorem tab_new {w : World} (n : Nat) (h1 : 1 ≤ n) (h2 : n ≤ 80) :
    Calls Tryz.prog 48 #[.int .i64 n] w fun e w' => ∃ b, e = .returned (.pointer (some ⟨b, 0, none⟩)) ∧ Fr NoF w w' ∧ TabRep w' b n ∧ w.heap.size ≤ b := by
  go_enter Tryz.func48, Tryz.ntmps48
  go_wp2
  go_ret
  exact ⟨_, rfl, (Fr.refl _ _).alloc _, Blk.new _ _ _, Nat.le_refl _⟩

set_option maxRecDepth 100000 in
theorem weight_any {w : World} {b n : Nat} (h1 : 1 ≤ n) (h2 : n ≤ 80) (d : Nat) (d1 : 1 ≤ d) (d2 : d ≤ n) (hc : w.cell? ⟨b, 0, none⟩ = some (.int .i64 n)) :
    Calls Tryz.prog 100 #[.pointer (some ⟨b, 0, none⟩), .int .i64 d] w fun e w' => e = .returned (.int .u32 (weightN n d)) ∧ w = w' := by
  go_enter Tryz.func100, Tryz.ntmps100
  go_wp2_with fail
  refine (root_any n h1 h2).mono ?_
  rintro e w1 ⟨rfl, rfl⟩
  have r1 := rootN_pos h1
  have r2 := rootN_le n
  obtain ⟨r, hr⟩ : ∃ r, r = rootN n := ⟨_, rfl⟩
  rw [← hr] at r1 r2 ⊢
  obtain ⟨t, ht⟩ : ∃ t, t = n / r := ⟨_, rfl⟩
  have ti : (n : Int) / (r : Int) = (t : Int) := by rw [ht, Int.natCast_ediv]
  have tn : t ≤ n := by rw [ht]; exact Nat.div_le_self _ _
  obtain ⟨m, hm⟩ : ∃ m, m = d * (d - 1) := ⟨_, rfl⟩
  have mi : (d : Int) * ((d : Int) - 1) = (m : Int) := by rw [hm, Int.natCast_mul]; congr 1; omega
  have mb : m ≤ 80 * 80 := by rw [hm]; exact Nat.mul_le_mul (by omega) (by omega)
  obtain ⟨p, hp⟩ : ∃ p, p = d * n := ⟨_, rfl⟩
  have pi : (d : Int) * (n : Int) = (p : Int) := by rw [hp, Int.natCast_mul]
  have p1 : 1 ≤ p := by rw [hp]; exact Nat.mul_pos d1 h1
  have pb : p ≤ 80 * 80 := by rw [hp]; exact Nat.mul_le_mul (by omega) (by omega)
  obtain ⟨a, ha⟩ : ∃ a, a = 1048576 / m := ⟨_, rfl⟩
  have ai : (1048576 : Int) / (m : Int) = (a : Int) := by rw [ha, Int.natCast_ediv]; rfl
  have ab : a ≤ 1048576 := by rw [ha]; exact Nat.div_le_self _ _
  obtain ⟨a', ha'⟩ : ∃ a, a = 1048576 / n := ⟨_, rfl⟩
  have ai' : (1048576 : Int) / (n : Int) = (a' : Int) := by rw [ha', Int.natCast_ediv]; rfl
  have ab' : a' ≤ 1048576 := by rw [ha']; exact Nat.div_le_self _ _
  obtain ⟨c, hcq⟩ : ∃ c, c = 262144 * r / p := ⟨_, rfl⟩
  have ci : (262144 : Int) * (r : Int) / (p : Int) = (c : Int) := by rw [hcq, Int.natCast_ediv, Int.natCast_mul]; rfl
  have cb : c ≤ 262144 * r := by rw [hcq]; exact Nat.div_le_self _ _
  obtain ⟨g, hg⟩ : ∃ g, g = 524288 * r / n := ⟨_, rfl⟩
  have gi : (524288 : Int) * (r : Int) / (n : Int) = (g : Int) := by rw [hg, Int.natCast_ediv, Int.natCast_mul]; rfl
  have gb : g ≤ 524288 * r := by rw [hg]; exact Nat.div_le_self _ _
  have W : weightN n d = (if 1 < d then a else a') + (if d < t then c else if d = t then g else 0) := by
    unfold weightN weightA weightB
    rw [← hr, ← ht, ← hm, ← hp, ← ha, ← ha', ← hcq, ← hg]
  have HW := Lib.hid W
  have HM := Lib.hid hm
  clear W hm hp ht ha ha' hcq hg hr
  rcases Nat.lt_trichotomy d t with hd | hd | hd
  · by_cases hd1 : 1 < d
    · have m1 : 1 ≤ m := by rw [HM.out]; exact Nat.mul_pos d1 (by omega)
      go_wp2_with fail
      go_ret
      refine ⟨?_, rfl⟩
      rw [HW.out, if_pos hd1, if_pos hd]
      go_num
    · go_wp2_with fail
      go_ret
      refine ⟨?_, rfl⟩
      rw [HW.out, if_neg hd1, if_pos hd]
      go_num
  · have HD : Hid (d = t) := hd
    have e1 : ((d : Int) == (t : Int)) = true := by simp [hd]
    have e2 : (t : Int) ≤ (d : Int) := by omega
    clear hd
    by_cases hd1 : 1 < d
    · have m1 : 1 ≤ m := by rw [HM.out]; exact Nat.mul_pos d1 (by omega)
      go_wp2_with fail
      go_ret
      refine ⟨?_, rfl⟩
      rw [HW.out, if_pos hd1, if_neg (by omega), if_pos HD.out]
      go_num
    · go_wp2_with fail
      go_ret
      refine ⟨?_, rfl⟩
      rw [HW.out, if_neg hd1, if_neg (by omega), if_pos HD.out]
      go_num
  · have HD : Hid (t < d) := hd
    have e1 : ((d : Int) == (t : Int)) = false := by simp; omega
    by_cases hd1 : 1 < d
    · have m1 : 1 ≤ m := by rw [HM.out]; exact Nat.mul_pos d1 (by omega)
      go_wp2_with fail
      go_ret
      refine ⟨?_, rfl⟩
      rw [HW.out, if_pos hd1, if_neg (by omega), if_neg (by omega)]
      go_num
    · go_wp2_with fail
      go_ret
      refine ⟨?_, rfl⟩
      rw [HW.out, if_neg hd1, if_neg (by omega), if_neg (by omega)]
      go_num

theorem info_u32 : (Tryz.prog.info? 22).map (fun i => (i.zero, i.size, i.bytes)) = some (some (.int .u32 0), 1, 4) := by kernel_rfl

/-- The first weights, as they lie. -/
def wts (n k : Nat) : List Value := (List.range k).map fun i => .int .u32 (weightN n (i + 1) : Nat)
theorem wts_succ (n k : Nat) : wts n (k + 1) = wts n k ++ [.int .u32 (weightN n (k + 1) : Nat)] := by simp [wts, List.range_succ]
theorem wts_length (n k : Nat) : (wts n k).length = k := by simp [wts]
/-- The first sums, as they lie. -/
def cums (n k : Nat) : List Value := (List.range k).map fun i => .int .u64 (cumN n (i + 1) : Nat)
theorem cums_succ (n k : Nat) : cums n (k + 1) = cums n k ++ [.int .u64 (cumN n (k + 1) : Nat)] := by simp [cums, List.range_succ]

theorem cums_last (n : Nat) (h : 1 ≤ n) : (cums n n)[n - 1]? = some (.int .u64 (cumN n n : Nat)) := by
  have e : n - 1 + 1 = n := by omega
  simp [cums, show n - 1 < n by omega, e]

set_option maxRecDepth 100000 in
theorem weights_any {w : World} {b n : Nat} (h1 : 1 ≤ n) (h2 : n ≤ 80) (hc : w.cell? ⟨b, 0, none⟩ = some (.int .i64 n)) :
    Calls Tryz.prog 84 #[.pointer (some ⟨b, 0, none⟩)] w fun e w' => ∃ v, e = .returned v ∧ Fr NoF w w' ∧ w'.ownsRow w.heap.size 22 1 v n (wts n n) := by
  have HC := Lib.hid hc
  clear hc
  go_enter Tryz.func84, Tryz.ntmps84
  go_wp2_with fail
  go_loopw [3, 4] (fun v i wr => ∃ k : Nat, k ≤ n ∧ i = .int .i64 (k + 1 : Nat) ∧ Hid (Fr NoF w wr) ∧ Hid (wr.ownsRow w.heap.size 22 1 v k (wts n k))) (fun _ i _ => n + 1 - (intOf i).toNat)
  case atStart => exact ⟨0, Nat.zero_le _, rfl, Fr.refl _ _, rfl, .inl ⟨rfl, rfl⟩⟩
  case round =>
    obtain ⟨k, hk, rfl, HF, HO⟩ := hrel
    have c0 : _ := HF.out.cellN HC.out
    by_cases hlt : k < n
    · go_wp2_with fail
      refine (weight_any h1 h2 (k + 1) (by omega) (by omega) c0).mono ?_
      rintro e w' ⟨rfl, rfl⟩
      go_wp2_with (at_builtin; refine wpList_append_one _ rfl _ _ 43 rfl w.heap.size 22 _ 4 Tryz.underlying43 info_u32 rfl _ _ _ rfl HO.out _ rfl rfl (by omega) (by decide) HF.out.size ?_)
      intro v' w' ho hf
      have HF2 : Hid (Fr NoF w w') := HF.out.transB hf
      have HO2 : Hid (w'.ownsRow w.heap.size 22 1 v' (k + 1) (wts n (k + 1))) := by rw [wts_succ]; exact ho
      clear ho hf
      go_wp2_with fail
      go_roundw
      case rel => exact ⟨k + 1, by omega, by go_num, HF2, HO2⟩
      case measure => simp [intOf]; omega
    · have e : k = n := by omega
      subst e
      go_wp2_with fail
      go_ret
      exact ⟨_, rfl, HF.out, HO.out⟩

set_option maxRecDepth 100000 in
/-- The sums are made. -/
theorem fill_any {w : World} {b n : Nat} {x1 x2 x3 : Value} (h1 : 1 ≤ n) (h2 : n ≤ 80) (hb : Blk w b #[.int .i64 n, x1, x2, x3, .slice none 0 0] 131) :
    Calls Tryz.prog 70 #[.pointer (some ⟨b, 0, none⟩)] w fun e w' => e = .returned (.tuple #[]) ∧ Fr (· = b) w w' ∧
      ∃ v, Blk w' b #[.int .i64 n, x1, x2, x3, v] 131 ∧ w'.ownsRow w.heap.size 31 1 v n (cums n n) := by
  have hc : w.cell? ⟨b, 0, none⟩ = some (.int .i64 n) := hb.cell 0 rfl
  have HB := Lib.hid hb
  have hlt0 := hb.lt
  clear hb
  go_enter Tryz.func70, Tryz.ntmps70
  go_wp2_with fail
  refine (weights_any h1 h2 hc).mono ?_
  rintro e w1 ⟨v, rfl, hf1, ho1⟩
  obtain ⟨g, cap, rfl, hg1, hg2, hgc⟩ := own_cells ho1 (by omega)
  have HG := Lib.hid hgc
  have HB1 : Hid (Blk w1 b _ _) := HB.out.frN hf1
  have HF1 := Lib.hid hf1
  clear ho1 hf1 hc hgc
  go_wp2_with fail
  go_loopw [2, 8] (fun s i wr => ∃ (k : Nat) (v : Value), k ≤ n ∧ i = .int .i64 k ∧ s = .int .u64 (cumN n k : Nat) ∧ Hid (Fr (· = b) w1 wr) ∧ Hid (Blk wr b #[.int .i64 n, x1, x2, x3, v] 131) ∧ Hid (wr.ownsRow w1.heap.size 31 1 v k (cums n k))) (fun _ i _ => n - (intOf i).toNat)
  case atStart => exact ⟨0, _, Nat.zero_le _, rfl, rfl, Fr.refl _ _, HB1, rfl, .inl ⟨rfl, rfl⟩⟩
  case round =>
    obtain ⟨k, v, hk, rfl, rfl, HF, HB, HO⟩ := hrel
    by_cases hlt : k < n
    · have hwt : (wts n n)[k]? = some (.int .u32 (weightN n (k + 1) : Nat)) := by simp [wts, hlt]
      have cw : wr.cell? ⟨g, k, none⟩ = some (.int .u32 (weightN n (k + 1) : Nat)) := HF.out.cell (HG.out k _ hwt).1 (by omega)
      have hw1 := weightN_lt h2 (k + 1)
      have hw2 := cumN_lt h2 k
      have hcs : ((cumN n k : Nat) : Int) + ((weightN n (k + 1) : Nat) : Int) = ((cumN n (k + 1) : Nat) : Int) := by rw [← Int.natCast_add]; rfl
      have hw3 := cumN_lt h2 (k + 1)
      have cb : wr.cell? ⟨b, 4, none⟩ = some v := HB.out.cell 4 rfl
      have zb : wr.frozen? ⟨b, 4, none⟩ = false := HB.out.frozen 4
      obtain ⟨pv, cpv, rfl⟩ := ownsRow_slice HO.out
      clear hwt
      go_wp2_with (at_builtin; refine wpList_append_one _ rfl _ _ 120 rfl w1.heap.size 31 _ 8 Tryz.underlying120 info_u64 rfl _ _ _ rfl HO.out _ rfl rfl (by omega) (by decide) HF.out.size ?_)
      intro v' w' ho hf
      have HB2 := HB.out.fr hf (by omega)
      have cb2 := HB2.cell 4 rfl
      have zb2 := HB2.frozen 4
      have HF2 : Hid (Fr (· = b) w1 w') := HF.out.transB hf
      have HO2 : Hid (w'.ownsRow w1.heap.size 31 1 v' (k + 1) (cums n (k + 1))) := by rw [cums_succ]; exact ho
      obtain ⟨pv', cpv', rfl⟩ := ownsRow_slice ho
      have HBB := Lib.hid HB2
      clear ho hf HB2 cb zb cw
      go_wp2_with fail
      go_roundw
      case rel =>
        have hne : (⟨b, 4, none⟩ : Addr).block < w1.heap.size := HB1.out.lt
        exact ⟨k + 1, _, by omega, by go_num, rfl, HF2.out.setCell (by intro _; rfl) _, HBB.out.setCell 4 _, ownsRow_setCell_below HO2.out hne _⟩
      case measure => simp [intOf]; omega
    · have e : k = n := by omega
      subst e
      go_wp2_with fail
      go_end0
      have ho := HO.out
      exact ⟨rfl, (HF1.out.no (F := fun k => k = b)).trans' HF.out, v, HB.out, ho.1, ho.2.imp id fun ⟨g, cap, cur, h1, h2, h3⟩ => ⟨g, cap, cur, h1, Nat.le_trans HF1.out.size h2, h3⟩⟩

set_option maxRecDepth 100000 in
/-- sort.Search over a test that only reads. -/
theorem search_any {w : World} {fn : Nat} {cap : Array Value} (n : Nat) (hn : n ≤ 1000000) (p : Nat → Bool) (hmono : ∀ i j, i ≤ j → p i = true → p j = true)
    (hcall : ∀ (h : Nat) w, (callFunc fn (#[.int .i64 h] ++ cap)).run Tryz.prog w = .ok (.enter fn (#[.int .i64 h] ++ cap)) w)
    (hf : ∀ h : Nat, h < n → ∀ q, Calls Tryz.prog fn (#[.int .i64 h] ++ cap) (w.drewN q) fun e w' => e = .returned (.bool (p h)) ∧ ∃ q', w' = w.drewN q') :
    Calls Tryz.prog 71 #[.int .i64 n, .func (.func fn) #[] cap] w fun e w' => e = .returned (.int .i64 (firstN p n)) ∧ ∃ q, w' = w.drewN q := by
  have HM := Lib.hid hmono
  have HF := Lib.hid hf
  clear hmono hf
  have hnot : ∀ (x : Bool) (w : World), (Op.unary .not (.bool x)).run Tryz.prog w = .ok (.bool (!x)) w := fun _ _ => rfl
  go_enter Tryz.func71, Tryz.ntmps71
  go_wp2_with fail
  go_loopw [5, 6] (fun i j wr => ∃ lo hi q : Nat, lo ≤ hi ∧ hi ≤ n ∧ i = .int .i64 lo ∧ j = .int .i64 hi ∧ Hid ((∀ q, q < lo → p q = false) ∧ (hi < n → p hi = true)) ∧ wr = w.drewN q) (fun i j _ => (intOf j - intOf i).toNat)
  case atStart => exact ⟨0, n, 0, Nat.zero_le _, Nat.le_refl _, rfl, rfl, ⟨fun q hq => by omega, fun h => by omega⟩, rfl⟩
  case round =>
    obtain ⟨lo, hi, q, a2, a3, rfl, rfl, HR, rfl⟩ := hrel
    by_cases hlt : lo < hi
    · obtain ⟨m, em, m1, m2⟩ : ∃ m : Nat, ((lo : Int) + (hi : Int)) / 2 = (m : Int) ∧ lo ≤ m ∧ m < hi := ⟨(lo + hi) / 2, by omega, by omega, by omega⟩
      have hcm := hcall m
      go_wp2_with fail
      refine (HF.out m (by omega) q).mono ?_
      rintro e w' ⟨rfl, q', rfl⟩
      by_cases hp : p m = true
      · have HR2 : Hid ((∀ q, q < lo → p q = false) ∧ (m < n → p m = true)) := ⟨HR.out.1, fun _ => hp⟩
        go_wp2_with fail
        go_roundw
        case rel => exact ⟨lo, m, q', m1, by omega, rfl, rfl, HR2, rfl⟩
        case measure => simp [intOf]; omega
      · simp only [Bool.not_eq_true] at hp
        have HR2 : Hid ((∀ q, q < m + 1 → p q = false) ∧ (hi < n → p hi = true)) := ⟨fun q hq => by
          cases hpq : p q
          · rfl
          · have := HM.out q m (by omega) hpq; rw [hp] at this; simp at this, HR.out.2⟩
        go_wp2_with fail
        go_roundw
        case rel => exact ⟨m + 1, hi, q', m2, a3, by go_num, rfl, HR2, rfl⟩
        case measure => simp [intOf]; omega
    · have e : hi = lo := by omega
      subst e
      have := firstN_uniq a3 HR.out.1 HR.out.2
      go_wp2
      go_ret
      exact ⟨by rw [← this]; rfl, q, rfl⟩

/-- The test that Degree hands to Search. -/
theorem deg_test {w : World} {b n bt ba : Nat} {x1 x2 x3 : Value} {g cap : Nat} (a : Nat) (h : Nat) (hh : h < n) (h2 : n ≤ 80) (hb : Blk w b #[.int .i64 n, x1, x2, x3, .slice (some ⟨g, 0, none⟩) n cap] 131)
    (ct : w.cell? ⟨bt, 0, none⟩ = some (.pointer (some ⟨b, 0, none⟩))) (ca : w.cell? ⟨ba, 0, none⟩ = some (.int .u64 a)) (hg : w.cell? ⟨g, h, none⟩ = some (.int .u64 (cumN n (h + 1) : Nat))) :
    Calls Tryz.prog 72 #[.int .i64 h, .pointer (some ⟨bt, 0, none⟩), .pointer (some ⟨ba, 0, none⟩)] w fun e w' => e = .returned (.bool (decide (a < cumN n (h + 1)))) ∧ ∃ q, w' = w.drewN q := by
  have c4 : w.cell? ⟨b, 4, none⟩ = some (.slice (some ⟨g, 0, none⟩) n cap) := hb.cell 4 rfl
  clear hb
  go_enter Tryz.func72, Tryz.ntmps72
  go_wp2
  go_quiet (fail)
  go_wp2
  go_ret
  refine ⟨?_, _, rfl⟩
  simp

set_option maxRecDepth 100000 in
/-- The number that chance picks, of a new table. -/
theorem degree_any {w : World} {b n : Nat} (h1 : 1 ≤ n) (h2 : n ≤ 80) (hb : TabRep w b n) (x : Nat) (hx : x < 4294967296) :
    Calls Tryz.prog 49 #[.pointer (some ⟨b, 0, none⟩), .int .u32 x] w fun e w' => e = .returned (.int .i64 (degN n x)) ∧ Fr (· = b) w w' := by
  unfold TabRep at hb
  have hmf : ∀ (fn : Fn) (first cap : Array Value) (w : World), (Instr.makeFunc fn first cap).run Tryz.prog w = .ok (.func fn first cap) w := fun _ _ _ _ => rfl
  have hlt0 := hb.lt
  have hnb : b ≠ w.heap.size := by omega
  have HB := Lib.hid (hb.alloc (.cells #[.pointer (some ⟨b, 0, none⟩)] 104))
  have HT := Lib.hid (Blk.new w #[.pointer (some ⟨b, 0, none⟩)] 104)
  have ct := HT.out.cell 0 rfl
  clear hb
  -- what the Once's function does, in the world in which Do calls it
  have HO : Hid (OnceFn 70 #[.pointer (some ⟨b, 0, none⟩)] b 1 (w.alloc (.cells #[.pointer (some ⟨b, 0, none⟩)] 104)).drew fun w' =>
      Fr (· = b) (w.alloc (.cells #[.pointer (some ⟨b, 0, none⟩)] 104)) w' ∧ ∃ v, Blk w' b #[.int .i64 n, .int .u32 1, .int .i32 0, .int .u32 0, v] 131 ∧ w'.ownsRow (w.heap.size + 1) 31 1 v n (cums n n)) := by
    have hbs := HB.out.drew.setCell 2 (.int .i32 1)
    refine (fill_any h1 h2 hbs).mono ?_
    rintro e w' ⟨rfl, hf, v, hb', ho⟩
    refine ⟨rfl, hb'.cell 1 rfl, hb'.cell 2 rfl, hb'.frozen _, hb'.frozen _, ?_, v, ((hb'.setCell 1 _).drew.setCell 2 _), ?_⟩
    · exact (((((Fr.refl _ _).drew.setCell (by intro _; rfl) _).trans' hf).setCell (by intro _; rfl) _).drew.setCell (by intro _; rfl) _)
    · have hsz : (((w.alloc (.cells #[.pointer (some ⟨b, 0, none⟩)] 104)).drew.setCell ⟨b, 2, none⟩ (.int .i32 1)).heap.size) = w.heap.size + 1 := by simp
      rw [hsz] at ho
      refine ownsRow_setCell_below (w := (w'.setCell ⟨b, 1, none⟩ (.int .u32 1)).drew) ?_ (by show b < w.heap.size + 1; omega) _
      exact ownsRow_setCell_below (w := w') ho (by show b < w.heap.size + 1; omega) _
  go_enter Tryz.func49, Tryz.ntmps49
  go_wp2_with fail
  go_region_held3 (fun w' => w'.cell? ⟨w.heap.size, 0, none⟩ = some (.pointer (some ⟨b, 0, none⟩))) (go_keep)
    (first | (go_at_call 30; refine (once_do (first := #[.pointer (some ⟨b, 0, none⟩)]) (cap := #[]) (HB.out.drew.cell 1 rfl) (HB.out.drew.cell 2 rfl) (HB.out.drew.frozen _) (fun w => Go.MuLone.run_callFunc_enter Tryz.func70 (by kernel_rfl) rfl _ w) HO.out).mono ?_; rintro e w1 ⟨rfl, hf, v, hb', ho⟩; obtain ⟨g, cap, rfl, hg1, hg2, hgc⟩ := own_cells ho (by omega); have ct1 := hf.cell ct (by omega); have HF1 := Lib.hid hf; have HB1 := Lib.hid hb'; have HG := Lib.hid hgc; clear hf hb' ho hgc))
  have c4 := HB1.out.cell 4 rfl
  have c0 := HB1.out.cell 0 rfl
  have hcl := cums_last n h1
  have cg := (HG.out (n - 1) _ hcl).1
  have hcn := cumN_lt h2 n
  obtain ⟨a, ha⟩ : ∃ a, a = x * cumN n n / 4294967296 := ⟨_, rfl⟩
  have hprod : x * cumN n n < 4294967296 * 4000000001 := Nat.mul_lt_mul_of_lt_of_le hx (by omega) (by decide)
  have eu : IntKind.u64.wrap ((x : Int) * ((cumN n n : Nat) : Int)) = ((x * cumN n n : Nat) : Int) := by rw [← Int.natCast_mul]; exact IntWalk.u64_in _ (by omega)
  have ea : ((x * cumN n n : Nat) : Int) / 4294967296 = (a : Int) := by rw [ha]; rfl
  have HU := Lib.hid eu
  have HA := Lib.hid ha
  have HEA := Lib.hid ea
  have HP := Lib.hid hprod
  clear eu ha ea hprod hcl
  have hwn : IntKind.i64.wrap ((n : Int) - 1) = ((n - 1 : Nat) : Int) := by rw [IntWalk.i64_in _ (by omega)]; omega
  have hw0 : (0 : Int) ≤ ((n - 1 : Nat) : Int) := by omega
  have hw1 : ((n - 1 : Nat) : Int) < (n : Int) := by omega
  have n1 := World.new_ne w1 _ ct1
  have n2 := World.new_ne w1 _ c4
  have n3 := World.new_ne w1 _ c0
  have n4 := World.new_ne w1 _ cg
  go_wp2_with fail
  go_region_held3 (fun w' => w'.cell? ⟨w.heap.size, 0, none⟩ = some (.pointer (some ⟨b, 0, none⟩)) ∧ w'.cell? ⟨b, 4, none⟩ = some (.slice (some ⟨g, 0, none⟩) n cap) ∧ w'.cell? ⟨b, 0, none⟩ = some (.int .i64 n) ∧ w'.cell? ⟨g, n - 1, none⟩ = some (.int .u64 (cumN n n : Nat))) (go_keep) (fail)
  have a1 : ∀ o, (w1.alloc o).cell? ⟨w.heap.size, 0, none⟩ = some (.pointer (some ⟨b, 0, none⟩)) := fun o => (World.cell?_alloc_past _ _ _ (by have := HF1.out.size; simp at this; omega)).trans ct1
  have a2 : ∀ o, (w1.alloc o).cell? ⟨b, 0, none⟩ = some (.int .i64 n) := fun o => (World.cell?_alloc_past _ _ _ HB1.out.lt).trans c0
  go_wp2_with fail
  rw [HU.out, HEA.out]
  have hsz : w.heap.size + 1 ≤ w1.heap.size := by have := HF1.out.size; simp at this; exact this
  refine (search_any (fn := 72) (cap := #[.pointer (some ⟨w.heap.size, 0, none⟩), .pointer (some ⟨w1.heap.size, 0, none⟩)]) n (by omega) (fun i => decide (a < cumN n (i + 1))) ?_ ?_ ?_).mono ?_
  · intro i j hij hi
    have := cumN_mono (n := n) (i := i + 1) (j := j + 1) (by omega)
    simp at hi ⊢
    omega
  · intro h w
    exact Go.MuLone.run_callFunc_enter Tryz.func72 (by kernel_rfl) rfl _ w
  · intro h hh q
    have hch : (cums n n)[h]? = some (.int .u64 (cumN n (h + 1) : Nat)) := by simp [cums, hh]
    refine (deg_test a h hh h2 ((HB1.out.alloc _).drew.drewN q) ?_ ?_ ?_).mono ?_
    · exact a1 _
    · exact (Blk.new w1 #[.int .u64 a] 31).cell 0 rfl
    · exact (World.cell?_alloc_past _ _ _ (by show g < w1.heap.size; exact hg2)).trans (HG.out h _ hch).1
    · rintro e w' ⟨rfl, q', rfl⟩
      exact ⟨rfl, q + q', by simp [World.drewN, Nat.add_assoc]⟩
  rintro e w' ⟨rfl, q, rfl⟩
  have hd : 1 + ((firstN (fun i => decide (a < cumN n (i + 1))) n : Nat) : Int) = ((degN n x : Nat) : Int) := by unfold degN; rw [HA.out, Int.natCast_add]; rfl
  have hdb := degN_bound h1 h2 hx
  have HD := Lib.hid hd
  have hfb : firstN (fun i => decide (a < cumN n (i + 1))) n ≤ 100 := by omega
  clear hd
  go_wp2_with fail
  go_ret
  refine ⟨by rw [← HD.out]; rfl, ?_⟩
  exact (((((Fr.refl _ _).alloc _).trans' HF1.out).alloc _).drewN _)
end Go.Proofs.YtamdmkjejpkbiaaGreatDoor
