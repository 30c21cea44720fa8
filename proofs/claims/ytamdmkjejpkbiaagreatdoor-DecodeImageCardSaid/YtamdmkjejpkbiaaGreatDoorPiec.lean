/- All pieces of an image: precode.Pieces. -/
import Derived.Test.YtamdmkjejpkbiaaGreatDoorSum
namespace Go.Proofs.YtamdmkjejpkbiaaGreatDoor
open Go Go.RowKit Go.Proofs

set_option maxRecDepth 100000 in
/-- A piece of the right size. -/
theorem pieces1_ok {w : World} {g sz : Nat} {p : Option Addr} {c : Nat} (h : w.cell? ⟨g, 3, none⟩ = some (.int .i64 sz)) :
    Calls Tryz.prog 78 #[.slice p sz c, .pointer (some ⟨g, 0, none⟩)] w fun e w' => e = .returned (.bool false) ∧ w = w' := by
  go_enter Tryz.func78, Tryz.ntmps78
  go_wp2
  go_ret
  exact ⟨by simp, by trivial⟩

set_option maxRecDepth 100000 in
/-- No piece is of another size. -/
theorem index_ok {w : World} {F : Nat → Prop} {v : Value} {bs : List (List UInt8)} (hs : BsAt F w v bs) (sz : Nat) (hbs : ∀ b, b ∈ bs → b.length = sz) (hbig : bs.length ≤ 1000) {g : Nat} (hg : w.cell? ⟨g, 3, none⟩ = some (.int .i64 sz)) :
    Calls Tryz.prog 88 #[v, .func (.func 78) #[] #[.pointer (some ⟨g, 0, none⟩)]] w fun e w' => e = .returned (.int .i64 (-1)) ∧ w = w' := by
  obtain ⟨vs, hv, hvl, hvs⟩ := hs
  rw [← hvl] at hbig
  obtain ⟨p, cap, rfl⟩ := hv.shape
  have hcf : ∀ (u : Value) (w : World), (callFunc 78 (#[u] ++ #[.pointer (some ⟨g, 0, none⟩)])).run Tryz.prog w = .ok (.enter 78 (#[u] ++ #[.pointer (some ⟨g, 0, none⟩)])) w := fun u w => Go.MuLone.run_callFunc_enter Tryz.func78 (by kernel_rfl) rfl _ w
  have HV := Lib.hid hv
  have HVS := Lib.hid hvs
  have HVL := Lib.hid hvl
  have HBS := Lib.hid hbs
  clear hv hvs hvl hbs
  go_enter Tryz.func88, Tryz.ntmps88
  go_wp2_with fail
  go_loopw [8] (fun i wr => ∃ k : Nat, k ≤ vs.length ∧ i = .int .i64 k ∧ w = wr) (fun i _ => vs.length - (intOf i).toNat)
  case atStart => exact ⟨0, Nat.zero_le _, rfl, rfl⟩
  case round =>
    obtain ⟨k, hk, rfl, rfl⟩ := hrel
    by_cases hlt : k < vs.length
    · obtain ⟨bv, o, rfl, hck⟩ : ∃ g o, p = some ⟨g, o, none⟩ ∧ w.cell? ⟨g, o + k, none⟩ = some vs[k] := by
        obtain ⟨g, o, rfl, _, _, hc⟩ := HV.out.open (by omega)
        exact ⟨g, o, rfl, hc k hlt⟩
      have hltb : k < bs.length := by rw [← HVL.out]; exact hlt
      have hu : SlAt F w vs[k] (bytesV bs[k]) := HVS.out k vs[k] bs[k] (List.getElem?_eq_getElem hlt) (List.getElem?_eq_getElem hltb)
      obtain ⟨pu, cu, eu⟩ := hu.shape
      rw [eu] at hck
      rw [bytesV_length, HBS.out _ (List.getElem_mem hltb)] at hck
      clear hu eu
      go_wp2_with fail
      refine (pieces1_ok hg).mono ?_
      rintro e w1 ⟨rfl, rfl⟩
      go_wp2_with fail
      go_roundw
      case rel => exact ⟨k + 1, by omega, by go_num, trivial⟩
      case measure => simp [intOf]; omega
    · go_wp2_with fail
      go_ret
      exact ⟨rfl, rfl⟩

set_option maxRecDepth 100000 in
theorem contains_ok {w : World} {F : Nat → Prop} {v : Value} {bs : List (List UInt8)} (hs : BsAt F w v bs) (sz : Nat) (hbs : ∀ b, b ∈ bs → b.length = sz) (hbig : bs.length ≤ 1000) {g : Nat} (hg : w.cell? ⟨g, 3, none⟩ = some (.int .i64 sz)) :
    Calls Tryz.prog 77 #[v, .func (.func 78) #[] #[.pointer (some ⟨g, 0, none⟩)]] w fun e w' => e = .returned (.bool false) ∧ w = w' := by
  have hi := index_ok hs sz hbs hbig hg
  go_enter Tryz.func77, Tryz.ntmps77
  go_wp2_with fail
  refine hi.mono ?_
  rintro e w1 ⟨rfl, rfl⟩
  go_wp2
  go_ret
  exact ⟨by simp, rfl⟩

theorem RowsRep.own {w w' : World} {B n : Nat} {f : Nat → Nat} {gs : List (Nat × Nat)} {base : Nat} {e : TypeId} {size : Nat} {v : Value} {m : Nat} {xs : List Value} (h : RowsRep w B n f gs) (ho : w.ownsRow base e size v m xs) (hf : Fr (fun k => v.ownBlock = some k) w w') (h1 : 122 ≠ e) (h2 : 31 ≠ e) : RowsRep w' B n f gs := fun j g hg => by
  obtain ⟨a, b⟩ := h j g hg
  exact ⟨a.own ho hf h1 h2, b⟩

theorem RowsRep.frN {w w' : World} {B n : Nat} {f : Nat → Nat} {gs : List (Nat × Nat)} (h : RowsRep w B n f gs) (hf : Fr NoF w w') : RowsRep w' B n f gs := h.fr hf fun _ _ g => g
theorem BsAt.length {F : Nat → Prop} {w : World} {p : Option Addr} {n c : Nat} {bs : List (List UInt8)} (h : BsAt F w (.slice p n c) bs) : n = bs.length := by
  obtain ⟨vs, h1, h2, _⟩ := h
  rw [h1.cap.1, h2]

/-- A whole block of bytes is a row of the call's own. -/
theorem Blk.owned {w : World} {g base : Nat} {b : List UInt8} (h : Blk w g (bytesV b).toArray 5) (hb : base ≤ g) (hl : b.length ≤ 100000) : w.ownsRow base 5 1 (.slice (some ⟨g, 0, none⟩) b.length b.length) b.length (bytesV b) :=
  ⟨by rw [bytesV_length, Nat.mul_one], .inr ⟨g, b.length, _, rfl, hb, h, Nat.le_refl _, by unfold maxLen; omega, by simp [bytesV], by rw [Nat.mul_one, ← bytesV_length b]; exact List.take_length⟩⟩

def accL (t : Bool) (A b : List UInt8) (i : Nat) : List UInt8 := if t then xorTo A b i else A

set_option maxRecDepth 100000 in
/-- All pieces. -/
theorem precode_pieces {w : World} {F : Nat → Prop} {v : Value} {bs : List (List UInt8)} {p : Par} (h : p.Ok) (hs : BsAt F w v bs) (hK : bs.length = p.K) (hbs : ∀ b, b ∈ bs → b.length = p.sz) :
    Calls Tryz.prog 55 #[.agg p.cells, v] w fun e w' => ∃ v', e = .returned v' ∧ Fr NoF w w' ∧ BsOwn w' w.heap.size v' (piecesL p bs) := by
  have hm := fun w => may_ok (w := w) h
  have hr := fun w => rows_any (w := w) h
  have hbk := Blk.new w p.cells 24
  have n2 := h.n2
  obtain ⟨vs, hv, hvl, hvs⟩ := id hs
  obtain ⟨pl, cap, rfl⟩ := hv.shape
  obtain ⟨_, k1, k2, p2, z1, z2⟩ := h
  have hmk := make_u8 p.sz (by omega) (by omega)
  rw [Int.toNat_natCast] at hmk
  have hvK : vs.length = p.K := hvl.trans hK
  rw [hvK] at hs hv ⊢
  have HVK := Lib.hid hvK
  have HB := Lib.hid hbk
  have HS := Lib.hid hs
  have HV := Lib.hid hv
  have HVS := Lib.hid hvs
  have HBS := Lib.hid hbs
  have HKK := Lib.hid hK
  have HVL := Lib.hid hvl
  have hmf : ∀ (fn : Fn) (first cap : Array Value) (w : World), (Instr.makeFunc fn first cap).run Tryz.prog w = .ok (.func fn first cap) w := fun _ _ _ _ => rfl
  unfold Par.cells at *
  clear hs hv hvs hvl hK hbs hbk hvK
  go_enter Tryz.func55, Tryz.ntmps55
  go_wp2_with fail
  refine (hm _).mono ?_
  rintro e w1 ⟨rfl, hf1⟩
  have HF1 : Hid (Fr NoF w w1) := ((Fr.refl NoF w).alloc _).trans' hf1
  have HB1 : Hid (Blk w1 w.heap.size _ _) := HB.out.frN hf1
  have hsl : w.heap.size < w1.heap.size := HB1.out.lt
  have c1 : w1.cell? ⟨w.heap.size, 1, none⟩ = some (.int .i64 p.K) := HB1.out.cell 1 rfl
  have c3 : w1.cell? ⟨w.heap.size, 3, none⟩ = some (.int .i64 p.sz) := HB1.out.cell 3 rfl
  have HS1 : Hid (BsAt F w1 _ _) := HS.out.frN HF1.out
  clear hf1
  go_wp2_with fail
  refine (contains_ok HS1.out p.sz HBS.out (by rw [HKK.out]; omega) c3).mono ?_
  rintro e w2 ⟨rfl, rfl⟩
  clear c1 c3
  go_wp2_with fail
  go_loopw [5, 31] (fun o i wr => ∃ k : Nat, k ≤ p.K ∧ i = .int .i64 k ∧ Hid (Fr NoF w1 wr) ∧ Hid (BsOwn wr w1.heap.size o (bs.take k))) (fun _ i _ => p.K - (intOf i).toNat)
  case atStart => exact ⟨0, Nat.zero_le _, rfl, Fr.refl _ _, BsOwn.nil _ _⟩
  case round =>
    obtain ⟨k, hk, rfl, HF2, HO⟩ := hrel
    by_cases hltK : k < p.K
    · have hlt : k < vs.length := by rw [HVK.out]; exact hltK
      obtain ⟨bv, o, rfl, hck⟩ : ∃ g o, pl = some ⟨g, o, none⟩ ∧ wr.cell? ⟨g, o + k, none⟩ = some vs[k] := by
        obtain ⟨g, o, rfl, _, _, hc⟩ := (HV.out.frN (HF1.out.trans' HF2.out)).open (by omega)
        exact ⟨g, o, rfl, hc k hlt⟩
      have hltb : k < bs.length := by rw [← HVL.out]; exact hlt
      have hu : SlAt F wr vs[k] (bytesV bs[k]) := (HVS.out k vs[k] bs[k] (List.getElem?_eq_getElem hlt) (List.getElem?_eq_getElem hltb)).frN (HF1.out.trans' HF2.out)
      have hlen : bs[k].length = p.sz := HBS.out _ (List.getElem_mem hltb)
      obtain ⟨pu, cu, eu⟩ := hu.shape
      rw [eu] at hu hck
      rw [bytesV_length, hlen] at hu hck
      have HU := Lib.hid hu
      have HLEN := Lib.hid hlen
      clear hu eu hlen
      go_wp2_with fail
      refine (clone_u8 HU.out (bytesV_one _) (by rw [bytesV_length, HLEN.out]; omega)).mono ?_
      rintro e w3 ⟨u, rfl, hf3, ho3⟩
      rw [bytesV_length] at ho3
      have hu := ownsRow_base ho3 HF2.out.size
      obtain ⟨vs', hv1, hv2, hv3⟩ := HO.out.frN hf3
      obtain ⟨pu', cu', rfl⟩ := ownsRow_slice hu
      have htl : (bs.take k).length = k := by rw [List.length_take]; omega
      have HF4 : Hid (Fr NoF w1 w3) := HF2.out.transN hf3
      have HV2' := Lib.hid hv2
      have HV3' := Lib.hid hv3
      have HV1' := Lib.hid hv1
      have HU' := Lib.hid hu
      have HTL := Lib.hid htl
      rw [HLEN.out]
      clear hf3 ho3 hu hv1 hv2 hv3 htl
      go_wp2_with (at_builtin; refine wpList_append_one' _ rfl _ _ 73 rfl w1.heap.size 28 _ 24 Tryz.underlying73 info_bs rfl _ _ _ rfl HV1'.out (.slice pu' p.sz cu') rfl rfl (by rw [HTL.out]; omega) (by decide) HF4.out.size ?_)
      intro v' w' ho hf
      have HF5 : Hid (Fr NoF w1 w') := HF4.out.transB (hf.own HV1'.out)
      have HO5 : Hid (BsOwn w' w1.heap.size v' (bs.take (k + 1))) := by
        show BsOwn w' w1.heap.size v' _
        rw [List.take_succ_eq_append_getElem hltb]
        rw [← HLEN.out] at ho
        exact BsOwn.snoc HV1'.out HV2'.out HV3'.out HU'.out (by rw [List.length_take]; exact ho) hf
      clear ho hf
      go_wp2_with fail
      go_roundw
      case rel => exact ⟨k + 1, by omega, by go_num, HF5, HO5⟩
      case measure => simp [intOf]; omega
    · have e : k = bs.length := by rw [HKK.out]; omega
      rw [e, List.take_length] at HO
      clear e
      have hbr : Hid (Blk wr w.heap.size _ _) := HB1.out.frN HF2.out
      have c0 := hbr.out.cell 0 rfl
      have c1 := hbr.out.cell 1 rfl
      have c2 := hbr.out.cell 2 rfl
      have c3 := hbr.out.cell 3 rfl
      clear hbr
      go_wp2_with fail
      refine (hr _).mono ?_
      clear c0 c1 c2 c3
      rintro e w4 ⟨vr, gs, rfl, hf4, hgl, hgo, hgr⟩
      have HF4 : Hid (Fr NoF w1 w4) := HF2.out.transN hf4
      have HO4 := Lib.hid (HO.out.frN hf4)
      have HGO := Lib.hid hgo
      have HGR := Lib.hid hgr
      have HGL := Lib.hid hgl
      obtain ⟨pr, cr, rfl⟩ := ownsRow_slice hgo
      rw [hgl]
      have hsz : w1.heap.size ≤ w4.heap.size := Nat.le_trans HF2.out.size hf4.size
      have hsz2 : w.heap.size < w4.heap.size := by omega
      have hsz3 : w1.heap.size ≤ wr.heap.size := HF2.out.size
      clear hf4 hgo hgr hgl HO HF2
      obtain ⟨B2, hB2⟩ : ∃ B2, B2 = wr.heap.size := ⟨_, rfl⟩
      rw [← hB2] at HGO HGR hsz3
      clear hB2
      rename World => wq
      go_wp2_with fail
      go_loopw [5, 44] (fun o i wr => ∃ k : Nat, k ≤ p.P ∧ i = .int .i64 k ∧ Hid (Fr NoF w1 wr) ∧ Hid (BsOwn wr w1.heap.size o (bs ++ (List.range k).map fun j => sumSel p.sz (parRow p j) bs)) ∧ Hid (wr.ownsRow B2 52 1 (.slice pr gs.length cr) gs.length (ptrs gs)) ∧ Hid (RowsRep wr B2 p.n (parRow p) gs)) (fun _ i _ => p.P - (intOf i).toNat)
      case atStart => exact ⟨0, Nat.zero_le _, rfl, HF4, by simpa using HO4, HGO, HGR⟩
      case round =>
        obtain ⟨k, hk, rfl, HF, HO, HG, HR⟩ := hrel
        by_cases hltP : k < p.P
        · have hgk : k < gs.length := by rw [HGL.out]; exact hltP
          have hvr := (HR.out k gs[k] (List.getElem?_eq_getElem hgk)).1
          obtain ⟨gr, rfl, hck⟩ : ∃ g, pr = some ⟨g, 0, none⟩ ∧ wr.cell? ⟨g, k, none⟩ = some (.pointer (some ⟨gs[k].1, 0, none⟩)) := by
            obtain ⟨g, c, e, _, _, hc⟩ := own_cells HG.out (by omega)
            injection e with e1 _ _
            subst e1
            exact ⟨g, rfl, (hc k _ (by simp [ptrs, hgk])).1⟩
          have c3 : wr.cell? ⟨w.heap.size, 3, none⟩ = some (.int .i64 p.sz) := (HB1.out.frN HF.out).cell 3 rfl
          obtain ⟨x, hx⟩ : ∃ x, x = parRow p k := ⟨_, rfl⟩
          rw [← hx] at hvr
          have HX := Lib.hid hx
          have HVR := Lib.hid hvr
          clear hx hvr
          rename World => wz
          have HZ : Hid (Blk (wz.alloc (.cells (Array.replicate p.sz (.int .u8 0)) 5)) wz.heap.size (bytesV (sumTo p.sz x bs 0)).toArray 5) := by
            have e : (bytesV (sumTo p.sz x bs 0)).toArray = Array.replicate p.sz (.int .u8 0) := by simp [bytesV, byteV, sumTo, zeroL]
            show Blk _ _ _ _
            rw [e]; exact Blk.new _ _ _
          go_wp2_with fail
          go_loopw [53] (fun i wr => ∃ j : Nat, j ≤ p.K ∧ i = .int .i64 j ∧ Hid (Fr NoF wz wr) ∧ Hid (Blk wr wz.heap.size (bytesV (sumTo p.sz x bs j)).toArray 5)) (fun i _ => p.K - (intOf i).toNat)
          case atStart => exact ⟨0, Nat.zero_le _, rfl, (Fr.refl _ _).alloc _, HZ⟩
          case round =>
            clear HZ
            obtain ⟨j, hj, rfl, HF5, HZ⟩ := hrel
            by_cases hltK : j < p.K
            · have hlt : j < vs.length := by rw [HVK.out]; exact hltK
              obtain ⟨bv, o, rfl, hck⟩ : ∃ g o, pl = some ⟨g, o, none⟩ ∧ wr.cell? ⟨g, o + j, none⟩ = some vs[j] := by
                obtain ⟨g, o, rfl, _, _, hc⟩ := (HV.out.frN ((HF1.out.trans' HF.out).trans' HF5.out)).open (by omega)
                exact ⟨g, o, rfl, hc j hlt⟩
              have hltb : j < bs.length := by rw [← HVL.out]; exact hlt
              have hu : SlAt F wz vs[j] (bytesV bs[j]) := (HVS.out j vs[j] bs[j] (List.getElem?_eq_getElem hlt) (List.getElem?_eq_getElem hltb)).frN (HF1.out.trans' HF.out)
              have hlen : bs[j].length = p.sz := HBS.out _ (List.getElem_mem hltb)
              obtain ⟨pu, cu, eu⟩ := hu.shape
              rw [eu] at hu hck
              rw [bytesV_length, hlen] at hu hck
              obtain ⟨b, hb⟩ : ∃ b, b = bs[j] := ⟨_, rfl⟩
              rw [← hb] at hu hlen
              obtain ⟨gu, ou, rfl, _, hgl, hcu⟩ := hu.open (by omega)
              obtain ⟨A, hA⟩ : ∃ A, A = sumTo p.sz x bs j := ⟨_, rfl⟩
              have hAl : A.length = p.sz := by rw [hA]; exact sumTo_length HBS.out (by omega)
              have hstep : sumTo p.sz x bs (j + 1) = accL (x.testBit j) A b p.sz := by
                rw [sumTo, ← hA]
                unfold accL
                rw [List.getElem?_eq_getElem hltb, ← hb, Option.getD_some, xorTo_all _ _ (hAl.trans hlen.symm) _ (by omega)]
              rw [← hA] at HZ
              have HSTEP := Lib.hid hstep
              have HCU := Lib.hid hcu
              have HLEN := Lib.hid hlen
              have HAL := Lib.hid hAl
              have HXY : Hid (A.length = b.length) := hAl.trans hlen.symm
              obtain ⟨t, ht⟩ : ∃ t, t = x.testBit j := ⟨_, rfl⟩
              rw [← ht] at HSTEP
              have HT := Lib.hid ht
              clear hu eu hlen hb hA hAl hstep hcu ht
              have HZ0 : Hid (Blk wr wz.heap.size (bytesV (accL t A b 0)).toArray 5) := by
                have e : accL t A b 0 = A := by cases t <;> simp [accL, xorTo_zero]
                rw [e]; exact HZ
              clear HZ
              go_wp2_with fail
              rename World => wy
              go_loopw [60] (fun i wr => ∃ q : Nat, q ≤ p.sz ∧ i = .int .i64 q ∧ Hid (Fr NoF wz wr) ∧ Hid (Blk wr wz.heap.size (bytesV (accL t A b q)).toArray 5)) (fun i _ => p.sz - (intOf i).toNat)
              case atStart => exact ⟨0, Nat.zero_le _, rfl, HF5, HZ0⟩
              case round =>
                clear HZ0
                obtain ⟨q, hq, rfl, HF6, HZ6⟩ := hrel
                by_cases hlq : q < p.sz
                · have hjn : j < p.n := by unfold Par.n; omega
                  go_wp2_with fail
                  refine (vec_has (HVR.out.frN HF6.out) hjn).mono ?_
                  rintro e w9 ⟨rfl, rfl⟩
                  rw [← HT.out]
                  cases t with
                  | true =>
                    have hky : q < A.length := by rw [HAL.out]; exact hlq
                    have hky' : q < b.length := by rw [HLEN.out]; exact hlq
                    have e1 : wr.cell? ⟨gu, ou + q, none⟩ = some (.int .u8 b[q].toNat) := by
                      have := HF6.out.cellN (HCU.out q (by rw [bytesV_length]; exact hky'))
                      simpa [bytesV, byteV] using this
                    have HZ7 : Hid (Blk wr wz.heap.size (bytesV (xorTo A b q)).toArray 5) := HZ6
                    have hxk : q < (xorTo A b q).length := by
                      have := xorTo_get A b HXY.out q hky
                      rcases Nat.lt_or_ge q (xorTo A b q).length with h | h
                      · exact h
                      · rw [List.getElem?_eq_none h] at this; simp at this
                    have hxe : (xorTo A b q)[q] = A[q] := by
                      have := xorTo_get A b HXY.out q hky
                      rw [List.getElem?_eq_getElem hxk] at this
                      simpa using this
                    have e2 : wr.cell? ⟨wz.heap.size, q, none⟩ = some (.int .u8 A[q].toNat) := HZ7.out.cell q (by rw [bytesV_get hxk, hxe])
                    have z2 := HZ7.out.frozen q
                    clear hxk hxe
                    go_wp2_with fail
                    go_region
                    go_wp2_with fail
                    go_roundw
                    case rel =>
                      refine ⟨q + 1, by omega, by go_num, (HF6.out.setCell (fun h => absurd h (Nat.lt_irrefl _)) _).drew, ?_⟩
                      have := (HZ7.out.setCell q (byteV (A[q] ^^^ b[q]))).drew
                      rw [u8_xor_byte]
                      have e : (bytesV (xorTo A b q)).toArray.setIfInBounds q (byteV (A[q] ^^^ b[q])) = (bytesV (xorTo A b (q + 1))).toArray := by
                        rw [List.setIfInBounds_toArray, ← xorTo_succ A b HXY.out q hky, bytesV, bytesV, List.map_set]
                      rw [e] at this
                      exact this
                    case measure => simp [intOf]; omega
                  | false =>
                    go_wp2_with fail
                    go_roundw
                    case rel => exact ⟨q + 1, by omega, by go_num, HF6, HZ6⟩
                    case measure => simp [intOf]; omega
                · have e : q = p.sz := by omega
                  rw [e, ← HSTEP.out] at HZ6
                  clear e
                  go_wp2_with fail
                  go_roundw
                  case rel => exact ⟨j + 1, by omega, by go_num, HF6, HZ6⟩
                  case measure => simp [intOf]; omega
            · have e : j = bs.length := by rw [HKK.out]; omega
              rw [e] at HZ
              clear e
              have HZ8 : Hid (Blk wr wz.heap.size (bytesV (sumSel p.sz x bs)).toArray 5) := HZ
              obtain ⟨vs', hv1, hv2, hv3⟩ := HO.out.frN HF5.out
              have hsl : (sumSel p.sz x bs).length = p.sz := sumSel_length HBS.out
              have hll : (bs ++ (List.range k).map fun j => sumSel p.sz (parRow p j) bs).length = p.K + k := by simp [HKK.out]
              have hwz := HF.out.size
              have hU : wr.ownsRow w1.heap.size 5 1 (.slice (some ⟨wz.heap.size, 0, none⟩) (sumSel p.sz x bs).length (sumSel p.sz x bs).length) (sumSel p.sz x bs).length (bytesV (sumSel p.sz x bs)) := HZ8.out.owned hwz (by rw [hsl]; omega)
              have hval : Value.slice (some ⟨wz.heap.size, 0, none⟩) (sumSel p.sz x bs).length (sumSel p.sz x bs).length = .slice (some ⟨wz.heap.size, 0, none⟩) p.sz p.sz := by rw [hsl]
              rw [hval] at hU
              have HF7 : Hid (Fr NoF w1 wr) := HF.out.transN HF5.out
              have HG7 := ownsRow_frN HG.out HF5.out
              have HR7 := HR.out.frN HF5.out
              have HV1' := Lib.hid hv1
              have HV2' := Lib.hid hv2
              have HV3' := Lib.hid hv3
              have HU' := Lib.hid hU
              have HLL := Lib.hid hll
              clear hv1 hv2 hv3 hU hsl hll hval
              rename World => wy
              go_wp2_with (at_builtin; refine wpList_append_one' _ rfl _ _ 73 rfl w1.heap.size 28 _ 24 Tryz.underlying73 info_bs rfl _ _ _ rfl HV1'.out (.slice (some ⟨wz.heap.size, 0, none⟩) p.sz p.sz) rfl rfl (by rw [HLL.out]; omega) (by decide) HF7.out.size ?_)
              intro v' w' ho hf
              have HF8 : Hid (Fr NoF w1 w') := HF7.out.transB (hf.own HV1'.out)
              have HG8 := Lib.hid (ownsRow_own HG7 HV1'.out hf (by decide))
              have HR8 := Lib.hid (HR7.own HV1'.out hf (by decide) (by decide))
              have HO8 : Hid (BsOwn w' w1.heap.size v' (bs ++ (List.range (k + 1)).map fun j => sumSel p.sz (parRow p j) bs)) := by
                show BsOwn w' w1.heap.size v' _
                rw [List.range_succ, List.map_append, List.map_singleton, ← List.append_assoc, ← HX.out]
                exact BsOwn.snoc HV1'.out HV2'.out HV3'.out HU'.out (by simpa using ho) hf
              clear ho hf
              go_wp2_with fail
              go_roundw
              case rel => exact ⟨k + 1, by omega, by go_num, HF8, HO8, HG8, HR8⟩
              case measure => simp [intOf]; omega
        · have e : k = p.P := by omega
          rw [e] at HO
          clear e
          go_wp2_with fail
          go_ret
          exact ⟨_, rfl, HF1.out.trans' HF.out, HO.out.base (by omega)⟩
end Go.Proofs.YtamdmkjejpkbiaaGreatDoor
