/- Which pieces a symbol sums: what the functions of packages spread and precode (its rows) compute. -/
import Derived.Test.YtamdmkjejpkbiaaGreatDoorSol
import Derived.Test.YtamdmkjejpkbiaaGreatDoorSpreadP
namespace Go.Proofs.YtamdmkjejpkbiaaGreatDoor
open Go Go.RowKit Go.Proofs

/-- Parameters as they lie. -/
def Par.cells (p : Par) : Array Value := #[.int .u32 p.ses, .int .i64 p.K, .int .i64 p.P, .int .i64 p.sz]

theorem may_any {w : World} (s k p z : Int) :
    Calls Tryz.prog 25 #[.agg #[.int .u32 s, .int .i64 k, .int .i64 p, .int .i64 z]] w fun e w' => e = .returned (.bool (decide (1 ≤ k ∧ k ≤ 64 ∧ 0 ≤ p ∧ p ≤ 16 ∧ 1 ≤ z ∧ z ≤ 16))) ∧ Fr NoF w w' := by
  go_enter Tryz.func25, Tryz.ntmps25
  go_wp2
  all_goals (go_ret; refine ⟨?_, (Fr.refl _ _).alloc _⟩; simp [*]; try omega)

theorem may_ok {w : World} {p : Par} (h : p.Ok) :
    Calls Tryz.prog 25 #[.agg p.cells] w fun e w' => e = .returned (.bool true) ∧ Fr NoF w w' := by
  obtain ⟨_, _, _, _, _, _⟩ := h
  unfold Par.cells
  go_enter Tryz.func25, Tryz.ntmps25
  go_wp2
  go_ret
  refine ⟨?_, (Fr.refl _ _).alloc _⟩
  simp
  omega

theorem pieces_ok {w : World} {p : Par} (h : p.Ok) :
    Calls Tryz.prog 26 #[.agg p.cells] w fun e w' => e = .returned (.int .i64 p.n) ∧ Fr NoF w w' := by
  have hm := fun w => may_ok (w := w) h
  have hb := Blk.new w p.cells 24
  have HB := Lib.hid hb
  clear hb
  obtain ⟨_, _, _, _, _, _⟩ := h
  unfold Par.cells at *
  go_enter Tryz.func26, Tryz.ntmps26
  go_wp2_with fail
  refine (hm _).mono ?_
  rintro e w1 ⟨rfl, hf⟩
  have hb1 := HB.out.frN hf
  have c1 := hb1.cell 1 rfl
  have c2 := hb1.cell 2 rfl
  have HF := Lib.hid hf
  clear hf hb1
  go_wp2
  go_ret
  exact ⟨by unfold Par.n; go_num, ((Fr.refl _ _).alloc _).trans' HF.out⟩

set_option maxRecDepth 100000 in
/-- The row of a symbol. -/
theorem row_any {w : World} {p : Par} (h : p.Ok) (id : Nat) (hid : id < 4294967296) :
    Calls Tryz.prog 22 #[.agg p.cells, .int .u32 id] w fun e w' => ∃ bv bw, e = .returned (.pointer (some ⟨bv, 0, none⟩)) ∧ Fr NoF w w' ∧ VecRep w' bv bw p.n (rowN p id) ∧ w.heap.size ≤ bv ∧ w.heap.size ≤ bw := by
  have hp := fun w => pieces_ok (w := w) h
  have hb := Blk.new w p.cells 24
  have HB := Lib.hid hb
  clear hb
  have n1 := h.n1
  have n2 := h.n2
  have HK := Lib.hid h
  obtain ⟨_, _, _, _, _, _⟩ := h
  unfold Par.cells at *
  go_enter Tryz.func22, Tryz.ntmps22
  go_wp2_with fail
  refine (hp _).mono ?_
  rintro e w1 ⟨rfl, hf⟩
  have hb1 := HB.out.frN hf
  have c0 := hb1.cell 0 rfl
  have c1 := hb1.cell 1 rfl
  have HF : Hid (Fr NoF w w1) := ((Fr.refl _ _).alloc _).trans' hf
  clear hf hb1
  have hne : ((p.n : Int) == 0) = false := by simp; omega
  by_cases hlt : id < p.K
  · have hr : rowN p id = ofBits [id] := by unfold rowN; rw [if_pos hlt]; simp [ofBits]
    have HR := Lib.hid hr
    clear hr
    go_wp2_with fail
    refine (vec_of _ p.n n1 (by omega) [id] (by simp; unfold Par.n; omega) _ (fun _ => True) ?_ (by simp)).mono ?_
    · exact ⟨some ⟨w1.heap.size, 0, none⟩, 1, rfl, ⟨fun h => by simp at h, by simp⟩, fun _ => ⟨w1.heap.size, 0, rfl, trivial, by simp, fun j hj => by
        simp at hj
        subst hj
        exact (Blk.new w1 #[.int .i64 id] 3).cell 0 rfl⟩⟩
    rintro e w2 ⟨bv, bw, rfl, hf, hv, h1, h2⟩
    have HF2 : Hid (Fr NoF w w2) := (HF.out.alloc _).trans' hf
    rw [← HR.out] at hv
    have hs : w.heap.size ≤ (w1.alloc (.cells #[.int .i64 id] 3)).heap.size := (HF.out.alloc _).size
    have HV := Lib.hid hv
    clear hf hv
    go_wp2
    go_ret
    exact ⟨bv, bw, rfl, HF2.out, HV.out, by omega, by omega⟩
  · have hr : rowN p id = rowFar p id := by unfold rowN; rw [if_neg hlt]
    have HR := Lib.hid hr
    clear hr
    have hslt := seed_lt p.ses id
    go_wp2_with fail
    refine (src_new p.ses id (by omega) hid).mono ?_
    rintro e w2 ⟨b, rfl, hf2, hs2, hb2⟩
    have HF2 : Hid (Fr NoF w w2) := HF.out.trans' hf2
    have HS2 := Lib.hid hs2
    clear hf2 hs2
    go_wp2_with fail
    refine (tab_new p.n n1 n2).mono ?_
    rintro e w3 ⟨t, rfl, hf3, ht3, hb3⟩
    have HF3 : Hid (Fr NoF w w3) := HF2.out.trans' hf3
    have HS3 : Hid (SrcRep w3 b (seed p.ses id)) := HS2.out.fr hf3 (fun g => g)
    have HT3 := Lib.hid ht3
    have hbt : b ≠ t := by have := HS2.out.1.lt; omega
    clear hf3 ht3
    go_wp2_with fail
    refine (src_next HS3.out).mono ?_
    rintro e w4 ⟨rfl, hf4, hs4⟩
    have HF4 : Hid (Fr NoF w w4) := HF3.out.trans hf4 (fun i hi e => by have := HF.out.size; omega)
    have HS4 := Lib.hid hs4
    have HT4 : Hid (TabRep w4 t p.n) := HT3.out.fr hf4 (by omega)
    have hs34 := hf4.size
    clear hf4 hs4
    have hx := mix_lt (nextS (seed p.ses id))
    go_wp2_with fail
    refine (degree_any n1 n2 HT4.out _ hx).mono ?_
    rintro e w5 ⟨rfl, hf5⟩
    have HF5 : Hid (Fr NoF w w5) := HF4.out.trans hf5 (fun i hi e => by have := HF2.out.size; omega)
    have HS5 : Hid (SrcRep w5 b (nextS (seed p.ses id))) := HS4.out.fr hf5 hbt
    obtain ⟨d1, d2⟩ := degN_bound n1 n2 hx
    clear hf5
    go_wp2_with fail
    refine (src_some HS5.out p.n _ n1 (by omega) d2).mono ?_
    rintro e w6 ⟨v, l, rfl, hf6, hs6, hsl, hm, hl⟩
    have HF6 : Hid (Fr NoF w w6) := HF5.out.trans hf6 (fun i hi e => by have := HF.out.size; omega)
    have hof : ofBits l = rowN p id := by rw [HR.out]; exact ofBits_congr hm
    have HOF := Lib.hid hof
    have HSL := Lib.hid hsl
    have HM := Lib.hid hm
    clear hf6 hs6 hsl hm hof
    go_wp2_with fail
    refine (vec_of _ p.n n1 (by omega) l (fun i hi => someL_mem ((HM.out i).1 hi)) v _ HSL.out (by omega)).mono ?_
    rintro e w7 ⟨bv, bw, rfl, hf7, hv, h1, h2⟩
    rw [HOF.out] at hv
    have HF7 : Hid (Fr NoF w w7) := HF6.out.trans' hf7
    have HV := Lib.hid hv
    clear hf7 hv
    go_wp2
    go_ret
    exact ⟨bv, bw, rfl, HF7.out, HV.out, by have := HF6.out.size; omega, by have := HF6.out.size; omega⟩

/-- A header as it lies in a slice. -/
def ptrs (gs : List (Nat × Nat)) : List Value := gs.map fun g => .pointer (some ⟨g.1, 0, none⟩)
/-- The rows of parity in memory. -/
def RowsRep (w : World) (B n : Nat) (f : Nat → Nat) (gs : List (Nat × Nat)) : Prop :=
  ∀ j g, gs[j]? = some g → VecRep w g.1 g.2 n (f j) ∧ B ≤ g.1 ∧ B ≤ g.2
theorem RowsRep.fr {w w' : World} {B n : Nat} {f : Nat → Nat} {gs : List (Nat × Nat)} {F : Nat → Prop} (h : RowsRep w B n f gs) (hf : Fr F w w') (hF : ∀ k, k < w.heap.size → ¬ F k) : RowsRep w' B n f gs := fun j g hg => by
  obtain ⟨a, b⟩ := h j g hg
  exact ⟨a.fr hf (hF _ a.ltv) (hF _ a.ltw), b⟩
theorem RowsRep.snoc {w : World} {B n : Nat} {f : Nat → Nat} {gs : List (Nat × Nat)} (h : RowsRep w B n f gs) {bv bw : Nat} (hv : VecRep w bv bw n (f gs.length)) (h1 : B ≤ bv) (h2 : B ≤ bw) : RowsRep w B n f (gs ++ [(bv, bw)]) := fun j g hg => by
  rcases Nat.lt_or_ge j gs.length with hj | hj
  · rw [List.getElem?_append_left hj] at hg; exact h j g hg
  · rw [List.getElem?_append_right hj] at hg
    have : j = gs.length := by
      rcases Nat.eq_zero_or_pos (j - gs.length) with h0 | h0
      · omega
      · rw [List.getElem?_eq_none (by simp; omega)] at hg; simp at hg
    subst this
    simp at hg
    subst hg
    exact ⟨hv, h1, h2⟩

theorem info_pvec : (Tryz.prog.info? 52).map (fun i => (i.zero, i.size, i.bytes)) = some (some (.pointer none), 1, 8) := by kernel_rfl

set_option maxRecDepth 100000 in
/-- The rows of parity. -/
theorem rows_any {w : World} {p : Par} (h : p.Ok) :
    Calls Tryz.prog 20 #[.agg p.cells] w fun e w' => ∃ v gs, e = .returned v ∧ Fr NoF w w' ∧ gs.length = p.P ∧ w'.ownsRow w.heap.size 52 1 v gs.length (ptrs gs) ∧ RowsRep w' w.heap.size p.n (parRow p) gs := by
  have hp := fun w => pieces_ok (w := w) h
  have hb := Blk.new w p.cells 24
  have HB := Lib.hid hb
  clear hb
  have n1 := h.n1
  have n2 := h.n2
  have HK := Lib.hid h
  obtain ⟨_, _, _, _, _, _⟩ := h
  unfold Par.cells at *
  go_enter Tryz.func20, Tryz.ntmps20
  go_wp2_with fail
  refine (hp _).mono ?_
  rintro e w1 ⟨rfl, hf⟩
  have hb1 := HB.out.frN hf
  have c2 := hb1.cell 2 rfl
  have HB1 := Lib.hid hb1
  have HF : Hid (Fr NoF w w1) := ((Fr.refl _ _).alloc _).trans' hf
  have hsz1 : w.heap.size < w1.heap.size := hb1.lt
  clear hf hb1
  have hne : ((p.n : Int) == 0) = false := by simp; omega
  go_wp2_with fail
  go_loopw [4, 15] (fun v i wr => ∃ gs : List (Nat × Nat), gs.length ≤ p.P ∧ i = .int .i64 gs.length ∧ Hid (Fr NoF w1 wr) ∧ Hid (wr.ownsRow w1.heap.size 52 1 v gs.length (ptrs gs)) ∧ Hid (RowsRep wr w1.heap.size p.n (parRow p) gs)) (fun _ i _ => p.P - (intOf i).toNat)
  case atStart => exact ⟨[], Nat.zero_le _, rfl, Fr.refl _ _, ⟨rfl, .inl ⟨rfl, rfl⟩⟩, fun j g hg => by simp at hg⟩
  case round =>
    obtain ⟨gs, hk, rfl, HF1, HO, HR⟩ := hrel
    rename World => wo
    by_cases hlt : gs.length < p.P
    · have hbr := HB1.out.frN HF1.out
      have c0 := hbr.cell 0 rfl
      have c1 := hbr.cell 1 rfl
      have HBR := Lib.hid hbr
      clear hbr
      go_wp2_with fail
      refine (vec_of _ p.n n1 (by omega) [p.K + gs.length] (by simp; unfold Par.n; omega) _ (fun _ => True) ?_ (by simp)).mono ?_
      · exact ⟨some ⟨wo.heap.size, 0, none⟩, 1, rfl, ⟨fun h => by simp at h, by simp⟩, fun _ => ⟨wo.heap.size, 0, rfl, trivial, by simp, fun j hj => by
          simp at hj
          subst hj
          exact (Blk.new wo #[.int .i64 (p.K + gs.length : Nat)] 3).cell 0 rfl⟩⟩
      rintro e w2 ⟨bv, bw, rfl, hf2, hv2, hbv, hbw⟩
      simp only [World.size_alloc] at hbv hbw
      have hv2 : VecRep w2 bv bw p.n (2 ^ (p.K + gs.length)) := by simpa [ofBits] using hv2
      have HF2 : Hid (Fr NoF wo w2) := ((Fr.refl _ _).alloc _).trans' hf2
      have HV2 := Lib.hid hv2
      have d0 := HF2.out.cellN c0
      have d1 := HF2.out.cellN c1
      clear hf2 hv2 c0 c1
      go_wp2_with fail
      refine (src_new p.ses (2147483648 + gs.length) (by omega) (by omega)).mono ?_
      rintro e w3 ⟨b, rfl, hf3, hs3, hb3⟩
      have HF3 : Hid (Fr NoF wo w3) := HF2.out.trans' hf3
      have HV3 : Hid (VecRep w3 bv bw p.n (2 ^ (p.K + gs.length))) := HV2.out.frN hf3
      have HS3 := Lib.hid hs3
      have e1 := hf3.cellN d1
      have hb2 := HV2.out.ltw
      have hb2' := HV2.out.ltv
      clear hf3 hs3 d0 d1
      go_wp2_with fail
      go_loopw [33] (fun i wi => ∃ k : Nat, k ≤ p.K ∧ i = .int .i64 k ∧ Hid (Fr NoF wo wi) ∧ Hid (VecRep wi bv bw p.n (parAcc (seed p.ses (2147483648 + gs.length)) (2 ^ (p.K + gs.length)) k)) ∧ Hid (SrcRep wi b (srcAt (seed p.ses (2147483648 + gs.length)) k))) (fun i _ => p.K - (intOf i).toNat)
      case atStart => exact ⟨0, Nat.zero_le _, rfl, HF3, HV3, HS3⟩
      case round =>
        clear HF3 HV3 HS3 e1
        obtain ⟨k, hk2, rfl, HF3, HV3, HS3⟩ := hrel
        by_cases hlk : k < p.K
        · go_wp2_with fail
          refine (src_next HS3.out).mono ?_
          rintro e w4 ⟨rfl, hf4, hs4⟩
          have hbs : b < wo.heap.size → False := fun h => by have := HF2.out.size; omega
          have HF4 : Hid (Fr NoF wo w4) := HF3.out.trans hf4 (fun i hi e => by subst e; exact (hbs hi).elim)
          have HV4 := HV3.out.fr hf4 (by omega) (by omega)
          have HS4 := Lib.hid hs4
          clear hf4 hs4
          have hm := mix_lt (nextS (srcAt (seed p.ses (2147483648 + gs.length)) k))
          have hand : bits .and .u32 ((mix (nextS (srcAt (seed p.ses (2147483648 + gs.length)) k)) : Nat) : Int) 1 = ((mix (nextS (srcAt (seed p.ses (2147483648 + gs.length)) k)) % 2 : Nat) : Int) := by
            rw [show (1 : Int) = ((1 : Nat) : Int) from rfl, u32_and_nat _ _ hm (by decide), Nat.and_one_is_mod]
          by_cases hy : mix (nextS (srcAt (seed p.ses (2147483648 + gs.length)) k)) % 2 = 1
          · rw [hy] at hand
            have hac : parAcc (seed p.ses (2147483648 + gs.length)) (2 ^ (p.K + gs.length)) (k + 1) = parAcc (seed p.ses (2147483648 + gs.length)) (2 ^ (p.K + gs.length)) k ||| 2 ^ k := by
              conv => lhs; unfold parAcc
              rw [if_pos (by exact hy)]
            have HA := Lib.hid hac
            have HY := Lib.hid hy
            clear hac hy
            go_wp2_with fail
            refine (vec_set_on HV4 (i := k) (by unfold Par.n; omega)).mono ?_
            rintro e w5 ⟨rfl, hf5, hv5⟩
            have HF5 : Hid (Fr NoF wo w5) := HF4.out.trans hf5 (fun i hi e => by omega)
            have HV5 : Hid (VecRep w5 bv bw p.n (parAcc (seed p.ses (2147483648 + gs.length)) (2 ^ (p.K + gs.length)) (k + 1))) := by rw [HA.out]; exact hv5
            have HS5 : Hid (SrcRep w5 b (srcAt (seed p.ses (2147483648 + gs.length)) (k + 1))) := HS4.out.fr hf5 (by omega)
            clear hf5 hv5 hand
            go_wp2_with fail
            go_roundw
            case rel => exact ⟨k + 1, by omega, by go_num, HF5, HV5, HS5⟩
            case measure => simp [intOf]; omega
          · have hy0 : mix (nextS (srcAt (seed p.ses (2147483648 + gs.length)) k)) % 2 = 0 := by omega
            rw [hy0] at hand
            have hac : parAcc (seed p.ses (2147483648 + gs.length)) (2 ^ (p.K + gs.length)) (k + 1) = parAcc (seed p.ses (2147483648 + gs.length)) (2 ^ (p.K + gs.length)) k := by
              conv => lhs; unfold parAcc
              rw [if_neg (by exact hy)]
            have HA := Lib.hid hac
            have HY := Lib.hid hy
            clear hac hy hy0
            have hbit : (parAcc (seed p.ses (2147483648 + gs.length)) (2 ^ (p.K + gs.length)) k).testBit k = false := by
              rw [parAcc_bit _ _ _ _ (Nat.le_refl _), Nat.testBit_two_pow]
              exact decide_eq_false (by omega)
            have HB := Lib.hid hbit
            clear hbit
            go_wp2_with fail
            refine (vec_set_off HV4 (i := k) (by unfold Par.n; omega) HB.out).mono ?_
            rintro e w5 ⟨rfl, hf5, hv5⟩
            have HF5 : Hid (Fr NoF wo w5) := HF4.out.trans hf5 (fun i hi e => by omega)
            have HV5 : Hid (VecRep w5 bv bw p.n (parAcc (seed p.ses (2147483648 + gs.length)) (2 ^ (p.K + gs.length)) (k + 1))) := by rw [HA.out]; exact hv5
            have HS5 : Hid (SrcRep w5 b (srcAt (seed p.ses (2147483648 + gs.length)) (k + 1))) := HS4.out.fr hf5 (by omega)
            clear hf5 hv5 hand
            go_wp2_with fail
            go_roundw
            case rel => exact ⟨k + 1, by omega, by go_num, HF5, HV5, HS5⟩
            case measure => simp [intOf]; omega
        · have e : k = p.K := by omega
          subst e
          rename World => wi
          have hR3 : RowsRep wi w1.heap.size p.n (parRow p) gs := HR.out.fr HF3.out (fun _ _ g => g)
          have hpr : parAcc (seed p.ses (2147483648 + gs.length)) (2 ^ (p.K + gs.length)) p.K = parRow p gs.length := rfl
          rw [hpr] at HV3
          have HR3 : Hid (RowsRep wi w1.heap.size p.n (parRow p) (gs ++ [(bv, bw)])) := hR3.snoc HV3.out (by have := HF1.out.size; omega) (by have := HF1.out.size; omega)
          have hO3 : wi.ownsRow w1.heap.size 52 1 _ gs.length (ptrs gs) := ownsRow_frN HO.out HF3.out
          have HO3 := Lib.hid hO3
          clear hR3 hO3 hpr HR HO
          go_wp2_with (at_builtin; refine wpList_append_one' _ rfl _ _ 50 rfl w1.heap.size 52 _ 8 Tryz.underlying50 info_pvec rfl _ _ _ rfl HO3.out (.pointer (some ⟨bv, 0, none⟩)) rfl rfl (by omega) (by decide) (HF1.out.transN HF3.out).size ?_)
          intro v' w' ho hf
          have HF4 : Hid (Fr NoF w1 w') := (HF1.out.transN HF3.out).transB (hf.own HO3.out)
          have HR4 : Hid (RowsRep w' w1.heap.size p.n (parRow p) (gs ++ [(bv, bw)])) := fun j g hg => by
            obtain ⟨a, b⟩ := HR3.out j g hg
            exact ⟨a.own HO3.out hf (by decide) (by decide), b⟩
          have HO4 : Hid (w'.ownsRow w1.heap.size 52 1 v' (gs ++ [(bv, bw)]).length (ptrs (gs ++ [(bv, bw)]))) := by
            show w'.ownsRow w1.heap.size 52 1 v' (gs ++ [(bv, bw)]).length (ptrs (gs ++ [(bv, bw)]))
            rw [List.length_append]; simpa [ptrs] using ho
          clear ho hf HR3 HO3
          go_wp2_with fail
          go_roundw
          case rel => exact ⟨gs ++ [(bv, bw)], by simp; omega, by simp, HF4, HO4, HR4⟩
          case measure => simp [intOf]; omega
    · have e : gs.length = p.P := by omega
      go_wp2_with fail
      go_ret
      have ho := HO.out
      refine ⟨_, gs, rfl, HF.out.transN HF1.out, e, ⟨ho.1, ho.2.imp id fun ⟨g, cap, cur, h1, h2, h3⟩ => ⟨g, cap, cur, h1, by omega, h3⟩⟩, fun j g hg => ?_⟩
      obtain ⟨a, b, c⟩ := HR.out j g hg
      exact ⟨a, by omega, by omega⟩
end Go.Proofs.YtamdmkjejpkbiaaGreatDoor
