/- Law 12, DecodeImage: symbols of a head's, in whatever order, however often, once there are enough, tell its image. -/
import Derived.Test.YtamdmkjejpkbiaaGreatDoorSound
import Derived.Test.YtamdmkjejpkbiaaGreatDoorSys
import Derived.Test.YtamdmkjejpkbiaaGreatDoorOwnH
import Derived.Deep.CutBlock
namespace Go.Proofs.YtamdmkjejpkbiaaGreatDoor
open Go Go.RowKit Go.Proofs

theorem ids_step {ids : List Nat} {j x : Nat} (h : ids[j]? = some x) (z : Nat) : ((∃ m, m < j ∧ ids[m]? = some z) ∨ z = x) ↔ ∃ m, m < j + 1 ∧ ids[m]? = some z := by
  constructor
  · rintro (⟨m, h1, h2⟩ | rfl)
    · exact ⟨m, by omega, h2⟩
    · exact ⟨j, by omega, h⟩
  · rintro ⟨m, h1, h2⟩
    by_cases e : m = j
    · subst e
      rw [h] at h2
      exact .inr (Option.some.inj h2).symm
    · exact .inl ⟨m, by omega, h2⟩

/-- All symbols, the matrix, the decoder, the head, side by side. -/
def imgSt (wb : World) (va : Value) (xs : List Value) (bm : Nat) (N : Mat) (bd bh : Nat) (q : Par) (M : Mat) (t : Nat) (img : List UInt8) (W : World) : Prop :=
  New wb (Sep (ownH 22 va xs) (Sep (matH bm q.n 1 N) (Sep (decH bd q M t) (Sep (headH bh q img) noH)))) W
section
variable {wb W W' : World} {va : Value} {xs : List Value} {bm bd bh : Nat} {N M : Mat} {q : Par} {t : Nat} {img : List UInt8}
theorem imgSt_stb (va : Value) (xs : List Value) (bm : Nat) (N : Mat) (bd bh : Nat) (q : Par) (M : Mat) (t : Nat) (img : List UInt8) : Stb (Sep (ownH 22 va xs) (Sep (matH bm q.n 1 N) (Sep (decH bd q M t) (Sep (headH bh q img) noH)))) :=
  (ownH_stb _ _ _).sep ((matH_stb _ _ _ _).sep ((decH_stb _ _ _ _).sep ((headH_stb _ _ _).sep noH_stb)))
theorem imgSt.frN (h : imgSt wb va xs bm N bd bh q M t img W) (hf : Fr NoF W W') : imgSt wb va xs bm N bd bh q M t img W' := New.frN h (imgSt_stb _ _ _ _ _ _ _ _ _ _) hf
theorem imgSt.fr (h : imgSt wb va xs bm N bd bh q M t img W) : Fr NoF wb W := New.fr h
theorem imgSt.add (h : imgSt wb va xs bm N bd bh q M t img W) (he : Env wb) (hf : Fr NoF W W') {bv bw x : Nat} (hv : VecRep W' bv bw q.n x) (hI : Inv q.n N) (hx : x < 2 ^ q.n) {g : Nat} (hb : Blk W' g #[.int .u8 0] 5) :
    Calls Tryz.prog 21 #[.pointer (some ⟨bm, 0, none⟩), .pointer (some ⟨bv, 0, none⟩), .slice (some ⟨g, 0, none⟩) 1 1] W' fun e w' => e = .returned (.bool (says N x [0])) ∧ imgSt wb va xs bm (Go.Proofs.YtamdmkjejpkbiaaGreatDoor.add N x [0]) bd bh q M t img w' := by
  have hs : SlAt AllF W' (.slice (some ⟨g, 0, none⟩) 1 1) (bytesV [0]) := SlAt.one hb
  refine ((New.ex h).madd2 ((ownH_stb _ _ _).sep ((decH_stb _ _ _ _).sep ((headH_stb _ _ _).sep noH_stb))) he hf hv hI hx hs rfl).mono ?_
  rintro e w' ⟨rfl, hn, _⟩
  exact ⟨rfl, hn.ex⟩
theorem imgSt.says (h : imgSt wb va xs bm N bd bh q M t img W) (he : Env wb) (id : Nat) (hid : id < 4294967296) {fr : Bool} (hs : Go.Proofs.YtamdmkjejpkbiaaGreatDoor.says M (rowN q id) [] = fr) :
    Calls Tryz.prog 16 #[.pointer (some ⟨bd, 0, none⟩), .int .u32 id] W fun e w' => e = .returned (.bool fr) ∧ imgSt wb va xs bm N bd bh q M t img w' := by
  refine ((New.ex2 h).says he id hid).mono ?_
  rintro e w' ⟨rfl, hf⟩
  exact ⟨by rw [hs], h.frN hf⟩
theorem imgSt.symbol (h : imgSt wb va xs bm N bd bh q M t img W) (hz : q.sz ≤ 16) (id : Nat) (hid : id < 4294967296) :
    Calls Tryz.prog 18 #[.pointer (some ⟨bh, 0, none⟩), .int .u32 id] W fun e w' => ∃ g, e = .returned (.slice (some ⟨g, 0, none⟩) q.sz q.sz) ∧ imgSt wb va xs bm N bd bh q M t img w' ∧ SlAt AllF w' (.slice (some ⟨g, 0, none⟩) q.sz q.sz) (bytesV (symbolL q img id)) := by
  refine ((New.ex3 h).symbol ((ownH_stb _ _ _).sep ((matH_stb _ _ _ _).sep ((decH_stb _ _ _ _).sep noH_stb))) id hid).mono ?_
  rintro e w' ⟨g, rfl, hn, _, hb⟩
  exact ⟨g, rfl, hn.in3, sym_sl hb hz⟩
theorem imgSt.take (h : imgSt wb va xs bm N bd bh q M t img W) (he : Env wb) (id : Nat) (hid : id < 4294967296) {vd : Value} (hd : SlAt AllF W vd (bytesV (symbolL q img id))) {fr : Bool} (hs : Go.Proofs.YtamdmkjejpkbiaaGreatDoor.says M (rowN q id) (symbolL q img id) = fr) :
    Calls Tryz.prog 13 #[.pointer (some ⟨bd, 0, none⟩), .int .u32 id, vd] W fun e w' => e = .returned (.bool fr) ∧ imgSt wb va xs bm N bd bh q (Go.Proofs.YtamdmkjejpkbiaaGreatDoor.add M (rowN q id) (symbolL q img id)) (t + if fr then 1 else 0) img w' := by
  refine ((New.ex2 h).take ((ownH_stb _ _ _).sep ((matH_stb _ _ _ _).sep ((headH_stb _ _ _).sep noH_stb))) he id hid hd (symbolL_length _ _ _)).mono ?_
  rintro e w' ⟨rfl, hn⟩
  rw [hs] at hn ⊢
  exact ⟨rfl, hn.in2⟩
theorem imgSt.needs (h : imgSt wb va xs bm N bd bh q M t img W) {nd : Nat} (hr : q.n - rank M = nd) :
    Calls Tryz.prog 12 #[.pointer (some ⟨bd, 0, none⟩)] W fun e w' => e = .returned (.int .i64 nd) ∧ imgSt wb va xs bm N bd bh q M t img w' := by
  refine ((New.ex2 h).needs).mono ?_
  rintro e w' ⟨rfl, hf⟩
  exact ⟨by rw [hr], h.frN hf⟩
theorem imgSt.rank (h : imgSt wb va xs bm N bd bh q M t img W) {rk : Nat} (hr : Go.Proofs.YtamdmkjejpkbiaaGreatDoor.rank N = rk) :
    Calls Tryz.prog 23 #[.pointer (some ⟨bm, 0, none⟩)] W fun e w' => e = .returned (.int .i64 rk) ∧ W = w' := by
  refine ((New.ex h).mrank).mono ?_
  rintro e w' ⟨rfl, hw⟩
  exact ⟨by rw [hr], hw⟩
theorem imgSt.full (h : imgSt wb va xs bm N bd bh q M t img W) {f : Bool} (hr : decide (Go.Proofs.YtamdmkjejpkbiaaGreatDoor.rank N = q.n) = f) :
    Calls Tryz.prog 24 #[.pointer (some ⟨bm, 0, none⟩)] W fun e w' => e = .returned (.bool f) ∧ Fr NoF W w' := by
  refine ((New.ex h).mfull).mono ?_
  rintro e w' ⟨rfl, hw⟩
  exact ⟨by rw [hr], hw⟩
theorem imgSt.taken (h : imgSt wb va xs bm N bd bh q M t img W) : Calls Tryz.prog 14 #[.pointer (some ⟨bd, 0, none⟩)] W fun e w' => e = .returned (.int .i64 t) ∧ W = w' := (New.ex2 h).taken
theorem imgSt.tk (h : imgSt wb va xs bm N bd bh q M t img W) : t + q.P = Go.Proofs.YtamdmkjejpkbiaaGreatDoor.rank M ∧ Go.Proofs.YtamdmkjejpkbiaaGreatDoor.rank M ≤ q.n := by
  obtain ⟨F, hd, _⟩ := (New.ex2 h).dec
  exact ⟨hd.tk, hd.inv.rank_le⟩
theorem imgSt.few (h : imgSt wb va xs bm N bd bh q M t img W) (hr : Go.Proofs.YtamdmkjejpkbiaaGreatDoor.rank M ≠ q.n) (len : Int) :
    Calls Tryz.prog 15 #[.pointer (some ⟨bd, 0, none⟩), .int .i64 len] W fun e w' => e = .returned (.tuple #[.slice none 0 0, .bool false]) ∧ imgSt wb va xs bm N bd bh q M t img w' := by
  refine ((New.ex2 h).imageFew hr len).mono ?_
  rintro e w' ⟨rfl, hf⟩
  exact ⟨rfl, h.frN hf⟩
theorem imgSt.image (h : imgSt wb va xs bm N bd bh q M t img W) (hr : Go.Proofs.YtamdmkjejpkbiaaGreatDoor.rank M = q.n) (hd : DataOk q.sz (allPieces q img) M) (h1 : 1 ≤ img.length) (h2 : img.length ≤ 512) (hc : countN img.length q.sz = q.K) :
    Calls Tryz.prog 15 #[.pointer (some ⟨bd, 0, none⟩), .int .i64 img.length] W fun e w' => ∃ v', e = .returned (.tuple #[v', .bool true]) ∧ imgSt wb va xs bm N bd bh q M t img w' ∧ w'.ownsRow W.heap.size 5 1 v' img.length (bytesV img) := by
  refine ((New.ex2 h).image ((ownH_stb _ _ _).sep ((matH_stb _ _ _ _).sep ((headH_stb _ _ _).sep noH_stb))) hr hd h1 h2 hc).mono ?_
  rintro e w' ⟨v', rfl, hn, ho⟩
  exact ⟨v', rfl, hn.in2, ho⟩
theorem imgSt.get {p : Option Addr} {n c : Nat} (h : imgSt wb (.slice p n c) xs bm N bd bh q M t img W) {k : Nat} (hk : k < xs.length) : ∃ g, p = some ⟨g, 0, none⟩ ∧ W.cell? ⟨g, k, none⟩ = some xs[k] := by
  obtain ⟨F1, _, ho⟩ := (New.own h).left
  exact ho.get hk
end

set_option maxRecDepth 100000 in
set_option maxHeartbeats 4000000 in
theorem law_image {w : World} (he : Env w) (s : Nat) (hs : s < 4294967296) (k p z : Int) {v : Value} {l : List UInt8} (hv : SlAt AllF w v (bytesV l)) (hl : l.length ≤ maxLen) {vi : Value} {ids : List Nat} (hids : SlAt AllF w vi (ids.map fun x => Value.int .u32 (x : Nat))) (hidl : ids.length ≤ maxLen) (hidb : ∀ x ∈ ids, x < 4294967296) (rest : Bool) :
    Calls Tryz.prog 6 #[.agg #[.int .u32 s, .int .i64 k, .int .i64 p, .int .i64 z], v, vi, .bool rest] w fun e w' => e = .returned (.bool true) ∧ Fr NoF w w' := by
  have hA := (Fr.refl NoF w).alloc (.cells #[.int .u32 s, .int .i64 k, .int .i64 p, .int .i64 z] 24)
  have HA := Lib.hid hA
  have HB := Lib.hid (Blk.new w #[.int .u32 s, .int .i64 k, .int .i64 p, .int .i64 z] 24)
  have HSD := Lib.hid (sound_any s hs k p z (hv.frN hA) hl)
  have HE := Lib.hid he
  have hg := he.1
  have HIDS := Lib.hid hids
  have HIDB := Lib.hid hidb
  obtain ⟨pd, cd, hvi⟩ := hids.shape
  rw [List.length_map] at hvi
  subst hvi
  unfold maxLen at hidl
  clear he hA hv hids hidb
  have hn1 := soundL_length l
  obtain ⟨img, him⟩ : ∃ img, img = soundL l := ⟨_, rfl⟩
  rw [← him] at HSD hn1
  have hi1 : 1 ≤ img.length := by omega
  have hi2 : img.length ≤ 201 := by omega
  obtain ⟨hq, hcn⟩ := soundP_ok (z := uns z) (p := uns p) hs hi1 (show img.length ≤ 1024 by omega)
  replace hcn := hcn (by omega)
  obtain ⟨q, hqe⟩ : ∃ q, q = soundP s (uns z) (uns p) img.length := ⟨_, rfl⟩
  rw [← hqe] at HSD hq hcn
  clear hqe him hn1
  have HQ := Lib.hid hq
  have HCN := Lib.hid hcn
  have hk1 := hq.k1
  have hk2 := hq.k2
  have hz1 := hq.z1
  have hz2 := hq.z2
  clear hq hcn
  obtain ⟨n, hnl⟩ : ∃ n, n = ids.length := ⟨_, rfl⟩
  rw [← hnl] at hidl HIDS ⊢
  have HNL := Lib.hid hnl
  clear hnl
  go_enter Tryz.func6, Tryz.ntmps6
  go_upto_region 1 with (fail)
  go_cut [1] (fun iv wx => ∃ pi ci, iv = .slice pi img.length ci ∧ Hid (Fr NoF w wx) ∧ Hid (Blk wx w.heap.size q.cells 24) ∧ Hid (SlAt AllF wx (.slice pi img.length ci) (bytesV img)))
  case first =>
    have c0 := HB.out.cell 0 rfl
    have c1 := HB.out.cell 1 rfl
    have c2 := HB.out.cell 2 rfl
    have c3 := HB.out.cell 3 rfl
    go_wp2_with fail
    refine HSD.out.mono ?_
    clear HSD c0 c1 c2 c3
    rintro e w2 ⟨v2, rfl, hf2, ho2⟩
    obtain ⟨p2, c2', rfl⟩ := ownsRow_slice ho2
    have HF2 : Hid (Fr NoF w w2) := HA.out.transN hf2
    have HB2 : Hid (Blk w2 w.heap.size _ _) := HB.out.frN hf2
    have HS2 : Hid (SlAt (fun k => w.heap.size + 1 ≤ k) w2 (.slice p2 img.length c2') (bytesV img)) := by
      have := SlAt.owned ho2
      show SlAt _ _ _ _
      simpa using this
    clear hf2 ho2
    have c0 := HB2.out.cell 0 rfl
    have c1 := HB2.out.cell 1 rfl
    have c2 := HB2.out.cell 2 rfl
    have c3 := HB2.out.cell 3 rfl
    have z0 := HB2.out.frozen 0
    have z1 := HB2.out.frozen 1
    have z2 := HB2.out.frozen 2
    have z3 := HB2.out.frozen 3
    unfold Par.cells
    go_wp2_with fail
    go_meet
    have h4 := Fr.set4 w2 w.heap.size (.int .u32 q.ses) (.int .i64 q.K) (.int .i64 q.P) (.int .i64 q.sz)
    exact ⟨p2, c2', rfl, HF2.out.trans h4 (fun i hi e => by have e : i = w.heap.size := e; omega), (((HB2.out.setCell 0 _).setCell 1 _).setCell 2 _).setCell 3 _, (HS2.out.fr h4 (fun i h1 h2 => by have h2 : i = w.heap.size := h2; omega)).mono (fun _ _ => trivial)⟩
  case rest =>
    obtain ⟨pi, ci, rfl, HF3, HB3, HI3⟩ := hcut
    clear HSD HB HA
    have HE3 : Hid (Env wc) := HE.out.frN HF3.out
    have c0 : wc.cell? ⟨w.heap.size, 0, none⟩ = some (.int .u32 q.ses) := HB3.out.cell 0 rfl
    have c1 : wc.cell? ⟨w.heap.size, 1, none⟩ = some (.int .i64 q.K) := HB3.out.cell 1 rfl
    have c2 : wc.cell? ⟨w.heap.size, 2, none⟩ = some (.int .i64 q.P) := HB3.out.cell 2 rfl
    have c3 : wc.cell? ⟨w.heap.size, 3, none⟩ = some (.int .i64 q.sz) := HB3.out.cell 3 rfl
    obtain ⟨wb, hwb⟩ : ∃ wb : World, wb = wc := ⟨_, rfl⟩
    subst hwb
    by_cases hbig : 100 < n
    · go_wp2_with fail
      refine (awake_any HE3.out).mono ?_
      rintro e w5 ⟨rfl, hf5⟩
      have HF5 : Hid (Fr NoF w w5) := HF3.out.transN hf5
      clear hf5
      go_wp2_with fail
      go_ret
      exact ⟨rfl, HF5.out⟩
    have hn100 : n ≤ 100 := by omega
    go_upto_region 4 with (fail)
    go_cut [9, 10] (fun hv dv wx => ∃ bh bd, hv = .pointer (some ⟨bh, 0, none⟩) ∧ dv = .pointer (some ⟨bd, 0, none⟩) ∧ Hid (New wb (Sep (headH bh q img) (decH bd q (parMat q q.P) 0)) wx))
    case first =>
      unfold Par.cells at *
      go_region_held3 (fun w' => Fr NoF wb w' ∧ w'.cell? ⟨w.heap.size, 0, none⟩ = some (.int .u32 q.ses) ∧ w'.cell? ⟨w.heap.size, 1, none⟩ = some (.int .i64 q.K) ∧ w'.cell? ⟨w.heap.size, 2, none⟩ = some (.int .i64 q.P) ∧ w'.cell? ⟨w.heap.size, 3, none⟩ = some (.int .i64 q.sz))
        (first | exact ⟨(Fr.refl _ _).drewN _, c0, c1, c2, c3⟩ | exact ⟨by assumption, by assumption, by assumption, by assumption, by assumption⟩)
        (first | (go_at_call 17; refine (code_new HQ.out (HI3.out.frN (And.left (by assumption))) hi1 (by omega) HCN.out (Nat.le_trans HE3.out.1 (Fr.size (And.left (by assumption))))).mono ?_; rintro e wa ⟨bh, rfl, hfa, hra⟩; have hS1 := Fr.trans' (And.left (by assumption)) hfa; have HH : Hid (New wb (headH bh q img) wa) := New.base (New.one hfa (Nat.le_trans HE3.out.1 (Fr.size (And.left (by assumption)))) hra) (headH_stb _ _ _) (And.left (by assumption)) HE3.out.1; have a0 := hS1.cellN c0; have a1 := hS1.cellN c1; have a2 := hS1.cellN c2; have a3 := hS1.cellN c3; clear hfa hra) | (go_at_call 11; refine (dec_new HQ.out (HE3.out.frN hS1)).mono ?_; rintro e wd ⟨bd, rfl, hfd, hrd⟩; have hS2 := hS1.transN hfd; have HN : Hid (New wb (Sep (headH bh q img) (decH bd q (parMat q q.P) 0)) wd) := HH.out.beside (headH_stb _ _ _) (decH_stb _ _ _ _) hfd hrd; have b0 := hS2.cellN c0; have b1 := hS2.cellN c1; have b2 := hS2.cellN c2; have b3 := hS2.cellN c3; clear hfd hrd))
      all_goals go_wp2_with fail
      all_goals go_meet
      all_goals exact ⟨bh, bd, rfl, rfl, HN⟩
    case rest =>
      obtain ⟨bh, bd, rfl, rfl, HN⟩ := hcut
      have HB4 : Hid (Blk wc w.heap.size q.cells 24) := HB3.out.frN HN.out.fr
      have c0 : wc.cell? ⟨w.heap.size, 0, none⟩ = some (.int .u32 q.ses) := HB4.out.cell 0 rfl
      have c1 : wc.cell? ⟨w.heap.size, 1, none⟩ = some (.int .i64 q.K) := HB4.out.cell 1 rfl
      have c2 : wc.cell? ⟨w.heap.size, 2, none⟩ = some (.int .i64 q.P) := HB4.out.cell 2 rfl
      have c3 : wc.cell? ⟨w.heap.size, 3, none⟩ = some (.int .i64 q.sz) := HB4.out.cell 3 rfl
      have hpn : (q.K : Int) + (q.P : Int) = (q.n : Int) := by unfold Par.n; omega
      have hgc := HN.out.g
      have hqn : q.n ≤ 80 := by have := HQ.out.p2; unfold Par.n; omega
      have hqn1 : 1 ≤ q.n := by unfold Par.n; omega
      have hp2 := HQ.out.p2
      have hmn := mat_new (w := wc) q.n 1 hqn1 (by omega) (by omega) (by omega) hgc
      have hst2 := (headH_stb bh q img).sep (decH_stb bd q (parMat q q.P) 0)
      have HST2 := Lib.hid hst2
      clear hst2
      unfold Par.cells at *
      go_wp2_with fail
      refine hmn.mono ?_
      clear hmn
      rintro e w4 ⟨bm, rfl, hf4, hm4⟩
      have HN4 : Hid (New wb (Sep (Sep (headH bh q img) (decH bd q (parMat q q.P) 0)) (matH bm q.n 1 (mat0 q.n))) w4) := HN.out.beside HST2.out (matH_stb _ _ _ _) hf4 hm4
      replace c0 := hf4.cellN c0
      replace c1 := hf4.cellN c1
      replace c2 := hf4.cellN c2
      replace c3 := hf4.cellN c3
      clear hf4 hm4 HN hgc
      go_wp2_with fail
      refine (rows_any HQ.out).mono ?_
      rintro e w5 ⟨vr, gs, rfl, hf5, hgl, hgo, hgr⟩
      have HN5 : Hid (New wb (Sep (matH bm q.n 1 (mat0 q.n)) (Sep (rowsH q.n (parRow q) vr gs) (Sep (headH bh q img) (decH bd q (parMat q q.P) 0)))) w5) :=
        (HN4.out.beside (HST2.out.sep (matH_stb _ _ _ _)) (rowsH_stb _ _ _ _) hf5 (rowsH.new HN4.out.g hf5 hgo hgr)).assoc.rot
      obtain ⟨pr, cr, rfl⟩ := ownsRow_slice hgo
      rw [hgl] at HN5 ⊢
      have HGL := Lib.hid hgl
      clear hf5 hgo hgr hgl HN4 c0 c1 c2 c3
      go_wp2_with fail
      obtain ⟨p1, hp1⟩ : ∃ p1 : Par, p1 = ⟨q.ses, q.K, q.P, 1⟩ := ⟨_, rfl⟩
      have hrow : ∀ k, parRow p1 k = parRow q k := fun k => by rw [hp1]; rfl
      have hstq : ∀ M ids, DecSt p1 M ids → DecSt q M ids := fun M ids h => by rw [hp1] at h; exact h
      have hstp : DecSt p1 (parMat p1 q.P) fun _ => False := by
        have := DecSt.start p1
        rw [show p1.P = q.P by rw [hp1]] at this
        exact this
      have hspn : ∀ k, k ≤ q.P → Inv q.n (parMat p1 k) := fun k hk => by
        have := (parMat_spans p1 (k := k) (by rw [hp1]; exact hk)).inv
        rw [show p1.n = q.n by rw [hp1]; rfl] at this
        exact this
      have h0 : mat0 q.n = parMat p1 0 := by rw [hp1]; rfl
      have hadd : ∀ k, parMat p1 (k + 1) = add (parMat p1 k) (parRow q k) [0] := fun k => by rw [hp1]; rfl
      rw [h0] at HN5
      have HROW := Lib.hid hrow
      have HSTQ := Lib.hid hstq
      have HSTP := Lib.hid hstp
      have HSPN := Lib.hid hspn
      have HADD := Lib.hid hadd
      clear hp1 hrow hstq hstp hspn h0 hadd
      have HST3 := Lib.hid (((rowsH_stb q.n (parRow q) (.slice pr q.P cr) gs).sep HST2.out))
      go_loopw [45] (fun i wr => ∃ k : Nat, k ≤ q.P ∧ i = .int .i64 k ∧ Hid (New wb (Sep (matH bm q.n 1 (parMat p1 k)) (Sep (rowsH q.n (parRow q) (.slice pr q.P cr) gs) (Sep (headH bh q img) (decH bd q (parMat q q.P) 0)))) wr)) (fun i _ => q.P - (intOf i).toNat)
      case atStart => exact ⟨0, Nat.zero_le _, rfl, HN5⟩
      case round =>
        clear HN5
        obtain ⟨k, hk, rfl, HN⟩ := hrel
        by_cases hltP : k < q.P
        · have hgk : k < gs.length := by rw [HGL.out]; exact hltP
          obtain ⟨F1, _, hrw⟩ := HN.out.ex.own.left
          obtain ⟨g, rfl, hck, hvr⟩ := hrw.get hgk
          have hfa := (Fr.refl NoF wr).alloc (.cells #[.int .u8 0] 5)
          have ha := HN.out.madd2 HST3.out HE3.out hfa (hvr.frN hfa) (HSPN.out k hk) (parRow_lt hltP) (d := [0]) (SlAt.oneA (u := .int .u8 0) rfl) rfl
          rw [← HADD.out k] at ha
          have HA := Lib.hid ha
          clear ha hfa hvr hrw HN
          go_wp2_with fail
          refine HA.out.mono ?_
          clear HA
          rintro e w6 ⟨rfl, hn6, _⟩
          have HN6 := Lib.hid hn6
          clear hn6 hck
          go_wp2_with fail
          go_roundw
          case rel => exact ⟨k + 1, by omega, by go_num, HN6⟩
          case measure => simp [intOf]; omega
        · have e : k = q.P := by omega
          subst e
          have HN7 : Hid (New wb (Sep (matH bm q.n 1 (parMat p1 q.P)) (Sep (decH bd q (parMat q q.P) 0) (Sep (headH bh q img) noH))) wr) :=
            (HN.out.ex.drop ((matH_stb _ _ _ _).sep HST2.out)).map fun _ h => h.map (fun _ h => h) fun _ h => h.swap.map (fun _ h => h) fun _ h => Sep.alone (headH_stb _ _ _) h
          clear HN HST3 HST2
          have HIDW : Hid (SlAt AllF (wr.alloc (.cells #[] 22)) _ _) := HIDS.out.frN ((HF3.out.transN HN7.out.fr).alloc (.cells #[] 22))
          obtain ⟨wt, hwt⟩ : ∃ wt : World, wt = wr := ⟨_, rfl⟩
          subst hwt
          have hnl := HNL.out
          go_wp2_with (at_builtin; refine wpList_append_sl _ rfl _ _ 43 rfl wt.heap.size 22 _ 4 Tryz.underlying43 info_u32 rfl _ _ _ rfl (own_empty (B := wt.heap.size) (g := wt.heap.size) rfl (Nat.le_refl _)) AllF _ (ids.map fun x => Value.int .u32 (x : Nat)) rfl HIDW.out (fun u hu => by simp only [List.mem_map] at hu; obtain ⟨x, _, rfl⟩ := hu; rfl) (by rw [List.length_map]; omega) (by decide) (by simp) ?_)
          intro v8 w8 ho8 hf8
          have HF8 : Hid (Fr NoF wt w8) := ((Fr.refl NoF wt).alloc (.cells #[] 22)).trans hf8 fun i hi hk => by omega
          have HO8 := Lib.hid ho8
          have HB8 : Hid (Blk w8 w.heap.size _ _) := HB3.out.frN (HN7.out.fr.transN HF8.out)
          have c1 : w8.cell? ⟨w.heap.size, 1, none⟩ = some (.int .i64 q.K) := HB8.out.cell 1 rfl
          obtain ⟨p8, c8, rfl⟩ := ownsRow_slice ho8
          clear ho8 hf8 HIDW hnl
          go_upto_block 2 with (fail)
          clear c1
          go_cut [14] (fun av wx => ∃ (L : List Nat), Hid (wx.ownsRow wt.heap.size 22 1 av L.length (L.map fun x => Value.int .u32 (x : Nat))) ∧ Hid (Fr NoF wt wx) ∧ Hid (∀ x ∈ L, x < 4294967296) ∧ L.length ≤ 200 ∧ Hid (rest = true → ∀ i, i < q.K → i ∈ L))
          case first =>
            cases rest with
            | false =>
              go_wp2_with fail
              go_loopw [14, 59] (fun av i wr => ∃ k : Nat, k ≤ q.K ∧ i = .int .i64 k ∧ Hid (Fr NoF wt wr) ∧ Hid (wr.ownsRow wt.heap.size 22 1 av ids.length (ids.map fun x => Value.int .u32 (x : Nat)))) (fun _ i _ => q.K - (intOf i).toNat)
              case atStart => exact ⟨0, Nat.zero_le _, rfl, HF8.out, HO8.out⟩
              case round =>
                obtain ⟨k, hk, rfl, HF, HO⟩ := hrel
                by_cases hlt : k < q.K
                · go_wp2_with fail
                  go_roundw
                  case rel => exact ⟨k + 1, by omega, by go_num, HF, HO⟩
                  case measure => simp [intOf]; omega
                · go_wp2_with fail
                  go_meet
                  have hnl := HNL.out
                  exact ⟨ids, HO.out, HF.out, HIDB.out, by omega, fun e => by simp at e⟩
            | true =>
              go_wp2_with fail
              go_loopw [14, 59] (fun av i wr => ∃ k : Nat, k ≤ q.K ∧ i = .int .i64 k ∧ Hid (Fr NoF wt wr) ∧ Hid (wr.ownsRow wt.heap.size 22 1 av (ids ++ (List.range k).map fun i => q.K - 1 - i).length ((ids ++ (List.range k).map fun i => q.K - 1 - i).map fun x => Value.int .u32 (x : Nat)))) (fun _ i _ => q.K - (intOf i).toNat)
              case atStart => exact ⟨0, Nat.zero_le _, rfl, HF8.out, (by have := HO8.out; show World.ownsRow _ _ _ _ _ _ _; simpa using this)⟩
              case round =>
                obtain ⟨k, hk, rfl, HF, HO⟩ := hrel
                by_cases hlt : k < q.K
                · obtain ⟨m, hm⟩ : ∃ m, m = q.K - 1 - k := ⟨_, rfl⟩
                  have hmi : (q.K : Int) - 1 - (k : Int) = (m : Int) := by omega
                  have hml : m < 64 := by omega
                  have hnl := HNL.out
                  have hLl : (ids ++ (List.range k).map fun i => q.K - 1 - i).length = n + k := by simp; omega
                  have hLn : (ids ++ (List.range (k + 1)).map fun i => q.K - 1 - i) = (ids ++ (List.range k).map fun i => q.K - 1 - i) ++ [m] := by rw [List.range_succ, hm]; simp
                  obtain ⟨L, hL⟩ : ∃ L, L = (ids ++ (List.range k).map fun i => q.K - 1 - i) := ⟨_, rfl⟩
                  rw [← hL] at HO hLl hLn
                  have HLN := Lib.hid hLn
                  have c1 : wr.cell? ⟨w.heap.size, 1, none⟩ = some (.int .i64 q.K) := (HB3.out.frN (HN7.out.fr.transN HF.out)).cell 1 rfl
                  obtain ⟨po, co, rfl⟩ := ownsRow_slice HO.out
                  have hs := HF.out.size
                  rw [hLl] at HO
                  have HLL := Lib.hid hLl
                  clear hm hnl hL hLl hLn
                  rw [HLL.out]
                  go_wp2_with (at_builtin; refine wpList_append_one _ rfl _ _ 43 rfl wt.heap.size 22 _ 4 Tryz.underlying43 info_u32 rfl _ _ _ rfl HO.out _ rfl rfl (by omega) (by decide) hs ?_)
                  intro v9 w9 ho9 hf9
                  have HF9 : Hid (Fr NoF wt w9) := HF.out.trans hf9 fun i hi hk => by omega
                  have HO9 : Hid (w9.ownsRow wt.heap.size 22 1 v9 (ids ++ (List.range (k + 1)).map fun i => q.K - 1 - i).length ((ids ++ (List.range (k + 1)).map fun i => q.K - 1 - i).map fun x => Value.int .u32 (x : Nat))) := by
                    show w9.ownsRow _ _ _ _ _ _
                    rw [HLN.out, List.length_append, HLL.out, List.map_append]
                    exact ho9
                  clear ho9 hf9 c1
                  go_wp2_with fail
                  go_roundw
                  case rel => exact ⟨k + 1, by omega, by go_num, HF9, HO9⟩
                  case measure => simp [intOf]; omega
                · have e : k = q.K := by omega
                  subst e
                  go_wp2_with fail
                  go_meet
                  have hnl := HNL.out
                  refine ⟨_, HO.out, HF.out, fun x hx => ?_, by simp; omega, fun _ i hi => ?_⟩
                  · rcases List.mem_append.1 hx with hx | hx
                    · exact HIDB.out x hx
                    · simp only [List.mem_map, List.mem_range] at hx
                      obtain ⟨a, ha, rfl⟩ := hx
                      omega
                  · refine List.mem_append.2 (.inr ?_)
                    simp only [List.mem_map, List.mem_range]
                    exact ⟨q.K - 1 - i, by omega, by omega⟩
          case rest =>
            obtain ⟨L, HO, HFL, HLB, hL200, HLR⟩ := hcut
            have HN8 : Hid (New wb (Sep (ownH 22 _ (L.map fun x => Value.int .u32 (x : Nat))) (Sep (matH bm q.n 1 (parMat p1 q.P)) (Sep (decH bd q (parMat q q.P) 0) (Sep (headH bh q img) noH)))) wc) :=
              (HN7.out.beside ((matH_stb _ _ _ _).sep ((decH_stb _ _ _ _).sep ((headH_stb _ _ _).sep noH_stb))) (ownH_stb _ _ _) HFL.out (ownH.of HN7.out.g HFL.out HO.out (by rw [List.length_map]))).swap
            obtain ⟨pa, ca, rfl⟩ := ownsRow_slice HO.out
            clear HO HFL HN7 HB8 HF8 HO8
            have HST0 := Lib.hid (HSTQ.out _ _ HSTP.out)
            clear HSTP HSTQ HSPN HADD HROW HGL
            go_wp2_with fail
            go_loopw [75] (fun i wr => ∃ (j t : Nat) (N M : Mat), j ≤ L.length ∧ i = .int .i64 j ∧ Hid (imgSt wb (.slice pa L.length ca) (L.map fun x => Value.int .u32 (x : Nat)) bm N bd bh q M t img wr) ∧ Hid (DecSt q N (fun x => ∃ m, m < j ∧ L[m]? = some x)) ∧ Hid (DecSt q M (fun x => ∃ m, m < j ∧ L[m]? = some x)) ∧ Hid (DataOk q.sz (allPieces q img) M)) (fun i _ => L.length - (intOf i).toNat)
            case atStart => exact ⟨0, 0, _, _, Nat.zero_le _, rfl, HN8.out, HST0.out.of (fun x => by simp), (DecSt.start q).of (fun x => by simp), DataOk.start img⟩
            case round =>
              clear HN8 HST0
              obtain ⟨j, t, N, M, hj, rfl, HN, HSN, HSM, HDA⟩ := hrel
              by_cases hlt : j < L.length
              · obtain ⟨id, hide⟩ : ∃ id, id = L[j] := ⟨_, rfl⟩
                have hid : id < 4294967296 := by rw [hide]; exact HLB.out _ (List.getElem_mem _)
                obtain ⟨g, rfl, hcg⟩ := HN.out.get (k := j) (by rw [List.length_map]; exact hlt)
                replace hcg : wr.cell? ⟨g, j, none⟩ = some (.int .u32 id) := by rw [hcg, hide]; simp
                have hxs : L[j]? = some id := by rw [hide]; exact List.getElem?_eq_getElem hlt
                have HXS := Lib.hid hxs
                have HB5 : Hid (Blk wr w.heap.size q.cells 24) := HB3.out.frN HN.out.fr
                have c0 : wr.cell? ⟨w.heap.size, 0, none⟩ = some (.int .u32 q.ses) := HB5.out.cell 0 rfl
                have c1 : wr.cell? ⟨w.heap.size, 1, none⟩ = some (.int .i64 q.K) := HB5.out.cell 1 rfl
                have c2 : wr.cell? ⟨w.heap.size, 2, none⟩ = some (.int .i64 q.P) := HB5.out.cell 2 rfl
                have c3 : wr.cell? ⟨w.heap.size, 3, none⟩ = some (.int .i64 q.sz) := HB5.out.cell 3 rfl
                obtain ⟨fr, hfr⟩ : ∃ fr, fr = says N (rowN q id) [0] := ⟨_, rfl⟩
                have hsay : ∀ d, says M (rowN q id) d = fr := fun d => by rw [hfr]; exact Spans.says_eq HSM.out HSN.out _ _ _
                have HFR := Lib.hid hfr
                have HSAY := Lib.hid hsay
                clear hide hxs hfr hsay
                go_wp2_with fail
                refine (row_any HQ.out id hid).mono ?_
                clear hcg c0 c1 c2 c3
                rintro e w4 ⟨bv, bw, rfl, hf4, hv4, _, _⟩
                have hfa := hf4.alloc (.cells #[.int .u8 0] 5)
                have ha := HN.out.add HE3.out hfa (hv4.frN ((Fr.refl _ _).alloc _)) HSN.out.inv (rowN_lt id) (Blk.new w4 #[.int .u8 0] 5)
                rw [← HFR.out] at ha
                have HA := Lib.hid ha
                clear ha hfa hv4 hf4 HN
                go_wp2_with fail
                refine HA.out.mono ?_
                clear HA
                rintro e w6 ⟨rfl, hn6⟩
                have HN6 := Lib.hid hn6
                clear hn6
                go_upto_region 22 with (fail)
                obtain ⟨N', hN'⟩ : ∃ N', N' = add N (rowN q id) [0] := ⟨_, rfl⟩
                obtain ⟨M', hM'⟩ : ∃ M', M' = add M (rowN q id) (symbolL q img id) := ⟨_, rfl⟩
                have hsn' : DecSt q N' (fun x => ∃ m, m < j + 1 ∧ L[m]? = some x) := by rw [hN']; exact (HSN.out.step id [0]).of (fun z => ids_step HXS.out z)
                have hsm' : DecSt q M' (fun x => ∃ m, m < j + 1 ∧ L[m]? = some x) := by rw [hM']; exact (HSM.out.step id (symbolL q img id)).of (fun z => ids_step HXS.out z)
                have hda' : DataOk q.sz (allPieces q img) M' := by rw [hM']; exact HDA.out.sym HSM.out.inv id
                have hrk' : rank N' = rank M' := Spans.rank_eq hsn' hsm'
                have hs2 : says M' (rowN q id) [] = false := by
                  cases h : says M' (rowN q id) [] with
                  | false => rfl
                  | true => exact absurd (Sp.one (.inr ⟨id, ⟨j, Nat.lt_succ_self j, HXS.out⟩, rfl⟩)) ((Spans.says hsm' _ _).1 h)
                obtain ⟨nd, hnd⟩ : ∃ nd, nd = q.n - rank M' := ⟨_, rfl⟩
                obtain ⟨rk, hrk⟩ : ∃ rk, rk = rank M' := ⟨_, rfl⟩
                have hrkn : rk ≤ q.n := by rw [hrk]; exact hsm'.inv.rank_le
                have hndr : nd = q.n - rk := by rw [hnd, hrk]
                rw [← hN'] at HN6
                have P1 : Hid (∀ (W : World), Fr NoF w6 W → Calls Tryz.prog 16 #[.pointer (some ⟨bd, 0, none⟩), .int .u32 id] W fun e w' => e = .returned (.bool fr) ∧ imgSt wb (.slice (some ⟨g, 0, none⟩) L.length ca) (L.map fun x => Value.int .u32 (x : Nat)) bm N' bd bh q M t img w') := fun W hf => (HN6.out.frN hf).says HE3.out id hid (HSAY.out [])
                have P2 : Hid (∀ (W : World), imgSt wb (.slice (some ⟨g, 0, none⟩) L.length ca) (L.map fun x => Value.int .u32 (x : Nat)) bm N' bd bh q M t img W → Calls Tryz.prog 18 #[.pointer (some ⟨bh, 0, none⟩), .int .u32 id] W fun e w' => ∃ g', e = .returned (.slice (some ⟨g', 0, none⟩) q.sz q.sz) ∧ imgSt wb (.slice (some ⟨g, 0, none⟩) L.length ca) (L.map fun x => Value.int .u32 (x : Nat)) bm N' bd bh q M t img w' ∧ SlAt AllF w' (.slice (some ⟨g', 0, none⟩) q.sz q.sz) (bytesV (symbolL q img id))) := fun W h => h.symbol hz2 id hid
                have P3 : Hid (∀ (W : World) (vd : Value), imgSt wb (.slice (some ⟨g, 0, none⟩) L.length ca) (L.map fun x => Value.int .u32 (x : Nat)) bm N' bd bh q M t img W → SlAt AllF W vd (bytesV (symbolL q img id)) → Calls Tryz.prog 13 #[.pointer (some ⟨bd, 0, none⟩), .int .u32 id, vd] W fun e w' => e = .returned (.bool fr) ∧ imgSt wb (.slice (some ⟨g, 0, none⟩) L.length ca) (L.map fun x => Value.int .u32 (x : Nat)) bm N' bd bh q M' (t + if fr then 1 else 0) img w') := fun W vd h hd => by
                  rw [hM']
                  exact h.take HE3.out id hid hd (HSAY.out _)
                have P4 : Hid (∀ (W : World), imgSt wb (.slice (some ⟨g, 0, none⟩) L.length ca) (L.map fun x => Value.int .u32 (x : Nat)) bm N' bd bh q M' (t + if fr then 1 else 0) img W → Calls Tryz.prog 16 #[.pointer (some ⟨bd, 0, none⟩), .int .u32 id] W fun e w' => e = .returned (.bool false) ∧ imgSt wb (.slice (some ⟨g, 0, none⟩) L.length ca) (L.map fun x => Value.int .u32 (x : Nat)) bm N' bd bh q M' (t + if fr then 1 else 0) img w') := fun W h => h.says HE3.out id hid hs2
                have P5 : Hid (∀ (W : World), imgSt wb (.slice (some ⟨g, 0, none⟩) L.length ca) (L.map fun x => Value.int .u32 (x : Nat)) bm N' bd bh q M' (t + if fr then 1 else 0) img W → Calls Tryz.prog 12 #[.pointer (some ⟨bd, 0, none⟩)] W fun e w' => e = .returned (.int .i64 nd) ∧ imgSt wb (.slice (some ⟨g, 0, none⟩) L.length ca) (L.map fun x => Value.int .u32 (x : Nat)) bm N' bd bh q M' (t + if fr then 1 else 0) img w') := fun W h => h.needs hnd.symm
                have P6 : Hid (∀ (W : World), imgSt wb (.slice (some ⟨g, 0, none⟩) L.length ca) (L.map fun x => Value.int .u32 (x : Nat)) bm N' bd bh q M' (t + if fr then 1 else 0) img W → Calls Tryz.prog 23 #[.pointer (some ⟨bm, 0, none⟩)] W fun e w' => e = .returned (.int .i64 rk) ∧ W = w') := fun W h => h.rank (by rw [hrk]; exact hrk')
                have HSN' := Lib.hid hsn'
                have HSM' := Lib.hid hsm'
                have HDA' := Lib.hid hda'
                have HRK' := Lib.hid hrk'
                have HRK := Lib.hid hrk
                have hx1 : wb.cell? ⟨w.heap.size, 1, none⟩ = some (.int .i64 q.K) := HB3.out.cell 1 rfl
                have hx2 : wb.cell? ⟨w.heap.size, 2, none⟩ = some (.int .i64 q.P) := HB3.out.cell 2 rfl
                have y1 := HN6.out.fr.cellN hx1
                have y2 := HN6.out.fr.cellN hx2
                have e1 : IntKind.i64.wrap ((q.K : Int) + (q.P : Int)) = (q.n : Int) := by rw [IntKind.wrap_i64]; omega
                have e2 : IntKind.i64.wrap ((q.n : Int) - (rk : Int)) = (nd : Int) := by rw [IntKind.wrap_i64]; omega
                have e3 : (fr != fr) = false := by cases fr <;> rfl
                clear hN' hM' hsn' hsm' hda' hrk' hs2 hnd hrk hndr HSN HSM HDA HSAY HFR hpn
                go_cut [117] (fun sv wx => sv = .bool false ∧ Hid (imgSt wb (.slice (some ⟨g, 0, none⟩) L.length ca) (L.map fun x => Value.int .u32 (x : Nat)) bm N' bd bh q M' (t + if fr then 1 else 0) img wx))
                case first =>
                  go_region_held3 (fun w' => Fr NoF wb w' ∧ w'.cell? ⟨w.heap.size, 1, none⟩ = some (.int .i64 q.K) ∧ w'.cell? ⟨w.heap.size, 2, none⟩ = some (.int .i64 q.P)) (first | exact ⟨HN6.out.fr.drewN _, y1, y2⟩ | exact ⟨by assumption, by assumption, by assumption⟩) (first | (go_at_call 16; refine (P4.out _ HC.out).mono ?_; rintro e wE ⟨rfl, hE⟩; have HE := Lib.hid hE; have fE := hE.fr; have gE1 := fE.cellN hx1; have gE2 := fE.cellN hx2; clear hE) | (go_at_call 16; refine (P1.out _ (by first | exact (Fr.refl _ _).drewN _ | exact (Fr.refl _ _).drew | exact Fr.refl _ _)).mono ?_; rintro e wA ⟨rfl, hA⟩; have HA := Lib.hid hA; have fA := hA.fr; have gA1 := fA.cellN hx1; have gA2 := fA.cellN hx2; clear hA) | (go_at_call 18; refine (P2.out _ HA.out).mono ?_; rintro e wB ⟨g', rfl, hB, hsB⟩; have HBB := Lib.hid hB; have HSB := Lib.hid hsB; have fB := hB.fr; have gB1 := fB.cellN hx1; have gB2 := fB.cellN hx2; clear hB hsB) | (go_at_call 13; refine (P3.out _ _ HBB.out HSB.out).mono ?_; rintro e wC ⟨rfl, hC⟩; have HC := Lib.hid hC; have fC := hC.fr; have gC1 := fC.cellN hx1; have gC2 := fC.cellN hx2; clear hC) | (go_at_call 12; refine (P5.out _ HE.out).mono ?_; rintro e wG ⟨rfl, hG⟩; have HG := Lib.hid hG; have fG := hG.fr; have gG1 := fG.cellN hx1; have gG2 := fG.cellN hx2; clear hG) | (go_at_call 23; refine (P6.out _ HG.out).mono ?_; rintro e wH ⟨rfl, rfl⟩))
                  all_goals go_wp2_with fail
                  all_goals go_meet
                  all_goals exact ⟨rfl, HG⟩
                case rest =>
                  obtain ⟨rfl, HT⟩ := hcut
                  clear P1 P2 P3 P4 P5 P6 e1 e2 e3 y1 y2 hx1 hx2 HN6
                  by_cases hfull : rank M' = q.n
                  · have HFU := Lib.hid hfull
                    have hi3 := HT.out.image HFU.out HDA'.out hi1 (by omega) HCN.out
                    clear hfull
                    go_wp2_with fail
                    refine hi3.mono ?_
                    clear hi3 HT
                    rintro e w13 ⟨v13, rfl, hn13, ho13⟩
                    have HN13 := Lib.hid hn13
                    obtain ⟨p13, c13, rfl⟩ := ownsRow_slice ho13
                    have HO13 := Lib.hid ho13
                    clear hn13 ho13
                    have hfl := HN13.out.full (f := true) (by rw [HRK'.out, HFU.out]; simp)
                    go_wp2_with fail
                    refine hfl.mono ?_
                    clear hfl
                    rintro e w14 ⟨rfl, hf14⟩
                    have hcv1 : (convert 28 9 (.slice p13 img.length c13)).run Tryz.prog w14 = .ok (.string ⟨img.toArray⟩) w14 := conv_sl ((SlAt.owned HO13.out).frN hf14)
                    have hcv2 : (convert 28 9 (.slice pi img.length ci)).run Tryz.prog w14 = .ok (.string ⟨img.toArray⟩) w14 := conv_sl (HI3.out.frN (HN13.out.fr.transN hf14))
                    have HN14 := Lib.hid (HN13.out.frN hf14)
                    clear hf14 HN13 HO13
                    go_wp2_with fail
                    go_roundw
                    case rel => exact ⟨j + 1, _, N', M', by omega, by go_num, HN14, HSN', HSM', HDA'⟩
                    case measure => simp [intOf]; omega
                  · have HFU := Lib.hid hfull
                    have hi3 := HT.out.few HFU.out img.length
                    clear hfull
                    go_wp2_with fail
                    refine hi3.mono ?_
                    clear hi3 HT
                    rintro e w13 ⟨rfl, hn13⟩
                    have HN13 := Lib.hid hn13
                    clear hn13
                    have hfl := HN13.out.full (f := false) (by rw [HRK'.out]; exact decide_eq_false HFU.out)
                    go_wp2_with fail
                    refine hfl.mono ?_
                    clear hfl
                    rintro e w14 ⟨rfl, hf14⟩
                    have HN14 := Lib.hid (HN13.out.frN hf14)
                    clear hf14 HN13
                    go_wp2_with fail
                    go_roundw
                    case rel => exact ⟨j + 1, _, N', M', by omega, by go_num, HN14, HSN', HSM', HDA'⟩
                    case measure => simp [intOf]; omega
              · have e : j = L.length := by omega
                subst e
                have HAW : Hid (∀ (W : World), Fr NoF wb W → Calls Tryz.prog 9 #[] W fun e w' => e = .returned (.bool true) ∧ Fr NoF W w') := fun W hf => awake_any (HE3.out.frN hf)
                have hx1 : wb.cell? ⟨w.heap.size, 1, none⟩ = some (.int .i64 q.K) := HB3.out.cell 1 rfl
                have y1 := HN.out.fr.cellN hx1
                cases rest with
                | true =>
                  have hids : ∀ i, i < q.K → ∃ m, m < L.length ∧ L[m]? = some i := fun i hi => by
                    obtain ⟨m, hm, he⟩ := List.mem_iff_getElem.1 (HLR.out rfl i hi)
                    exact ⟨m, hm, by rw [List.getElem?_eq_getElem hm, he]⟩
                  have hfn : rank N = q.n := HSN.out.full hids
                  have hfm : rank M = q.n := HSM.out.full hids
                  have htk := HN.out.tk
                  have htK : t = q.K := by
                    have : q.n = q.K + q.P := rfl
                    omega
                  subst htK
                  have HFULL : Hid (∀ (W : World), Fr NoF wr W → Calls Tryz.prog 24 #[.pointer (some ⟨bm, 0, none⟩)] W fun e w' => e = .returned (.bool true) ∧ Fr NoF W w') := fun W hf => (HN.out.frN hf).full (by rw [hfn]; simp)
                  have HTAK : Hid (∀ (W : World), Fr NoF wr W → Calls Tryz.prog 14 #[.pointer (some ⟨bd, 0, none⟩)] W fun e w' => e = .returned (.int .i64 q.K) ∧ W = w') := fun W hf => (HN.out.frN hf).taken
                  have HFRR := Lib.hid HN.out.fr
                  clear hids hfn hfm htk hx1 hpn
                  go_wp2_with fail
                  go_region_held3 (fun w' => Fr NoF wr w' ∧ w'.cell? ⟨w.heap.size, 1, none⟩ = some (.int .i64 q.K)) (first | exact ⟨(Fr.refl _ _).drewN _, y1⟩ | exact ⟨by assumption, by assumption⟩) (first | (go_at_call 24; refine (HFULL.out _ (And.left (by assumption))).mono ?_; rintro e wA ⟨rfl, hA⟩; have hSA := Fr.trans' (And.left (by assumption)) hA; have gA := hSA.cellN y1) | (go_at_call 14; refine (HTAK.out _ (And.left (by assumption))).mono ?_; rintro e wB ⟨rfl, rfl⟩) | (go_at_call 9; refine (HAW.out _ (HFRR.out.transN (And.left (by assumption)))).mono ?_; rintro e wC ⟨rfl, hC⟩; have hSC := Fr.trans' (And.left (by assumption)) hC; have gC := hSC.cellN y1))
                  all_goals go_wp2_with fail
                  all_goals go_ret
                  all_goals exact ⟨rfl, (HF3.out.transN HFRR.out).transN hSC⟩
                | false =>
                  have HFRR := Lib.hid HN.out.fr
                  clear hx1 hpn y1
                  go_upto_region 28 with (fail)
                  go_cut [8] (fun sv wx => sv = .bool true ∧ Hid (Fr NoF wr wx))
                  case first =>
                    refine wp_region_held_drew (S := (fun w' => Fr NoF wr w')) (by kernel_rfl) ((Fr.refl _ _).drewN _) (fun hHeld => ?_)
                    refine wpAnyH_take (i := 0) (oi := ⟨some 140, _, _, _, _, _⟩) (v := .bool false) rfl (by kernel_rfl) (by kernel_rfl) (by kernel_rfl) (fun _ _ _ h => h) (Or.inl ⟨by rfl, by (intro w hSw; (try dsimp only at hSw); go_simp)⟩) (by assumption) ?_
                    try simp only [Act.put, List.setIfInBounds_toArray, List.set_cons_zero, List.set_cons_succ]
                    refine wpAnyH_take (i := 1) (oi := ⟨some 141, _, _, _, _, _⟩) (v := .bool true) rfl (by kernel_rfl) (by kernel_rfl) (by kernel_rfl) (fun _ _ _ h => h) (Or.inl ⟨by rfl, by (intro w hSw; (try dsimp only at hSw); go_simp)⟩) (by assumption) ?_
                    try simp only [Act.put, List.setIfInBounds_toArray, List.set_cons_zero, List.set_cons_succ]
                    refine wpAnyH_take (i := 2) (oi := ⟨some 142, _, _, _, _, _⟩) (v := .bool true) rfl (by kernel_rfl) (by kernel_rfl) (by kernel_rfl) (fun _ _ _ h => h) (Or.inl ⟨by rfl, by (intro w hSw; (try dsimp only at hSw); go_simp)⟩) (by assumption) ?_
                    try simp only [Act.put, List.setIfInBounds_toArray, List.set_cons_zero, List.set_cons_succ]
                    refine wpAnyH_take (i := 3) (oi := ⟨some 143, _, _, _, _, _⟩) (v := undef) rfl (by kernel_rfl) (by kernel_rfl) (by kernel_rfl) (fun _ _ _ h => h) (Or.inr ⟨by rfl, rfl⟩) (by assumption) ?_
                    try simp only [Act.put, List.setIfInBounds_toArray, List.set_cons_zero, List.set_cons_succ]
                    refine wpAnyH_take (i := 4) (oi := ⟨some 144, _, _, _, _, _⟩) (v := undef) rfl (by kernel_rfl) (by kernel_rfl) (by kernel_rfl) (fun _ _ _ h => h) (Or.inr ⟨by rfl, rfl⟩) (by assumption) ?_
                    try simp only [Act.put, List.setIfInBounds_toArray, List.set_cons_zero, List.set_cons_succ]
                    refine wpAnyH_take (i := 5) (oi := ⟨some 145, _, _, _, _, _⟩) (v := undef) rfl (by kernel_rfl) (by kernel_rfl) (by kernel_rfl) (fun _ _ _ h => h) (Or.inr ⟨by rfl, rfl⟩) (by assumption) ?_
                    try simp only [Act.put, List.setIfInBounds_toArray, List.set_cons_zero, List.set_cons_succ]
                    refine wpAnyH_take (i := 6) (oi := ⟨some 146, _, _, _, _, _⟩) (v := undef) rfl (by kernel_rfl) (by kernel_rfl) (by kernel_rfl) (fun _ _ _ h => h) (Or.inr ⟨by rfl, rfl⟩) (by assumption) ?_
                    try simp only [Act.put, List.setIfInBounds_toArray, List.set_cons_zero, List.set_cons_succ]
                    refine wpAnyH_take (i := 7) (oi := ⟨some 147, _, _, _, _, _⟩) (v := undef) rfl (by kernel_rfl) (by kernel_rfl) (by kernel_rfl) (fun _ _ _ h => h) (Or.inr ⟨by rfl, rfl⟩) (by assumption) ?_
                    try simp only [Act.put, List.setIfInBounds_toArray, List.set_cons_zero, List.set_cons_succ]
                    refine wpAnyH_take (i := 8) (oi := ⟨some 148, _, _, _, _, _⟩) (v := undef) rfl (by kernel_rfl) (by kernel_rfl) (by kernel_rfl) (fun _ _ _ h => h) (Or.inr ⟨by rfl, rfl⟩) (by assumption) ?_
                    try simp only [Act.put, List.setIfInBounds_toArray, List.set_cons_zero, List.set_cons_succ]
                    refine wpAnyH_take (i := 9) (oi := ⟨some 149, _, _, _, _, _⟩) (v := undef) rfl (by kernel_rfl) (by kernel_rfl) (by kernel_rfl) (fun _ _ _ h => h) (Or.inr ⟨by rfl, rfl⟩) (by assumption) ?_
                    try simp only [Act.put, List.setIfInBounds_toArray, List.set_cons_zero, List.set_cons_succ]
                    refine wpAnyH_take (i := 10) (oi := ⟨some 150, _, _, _, _, _⟩) (v := undef) rfl (by kernel_rfl) (by kernel_rfl) (by kernel_rfl) (fun _ _ _ h => h) (Or.inr ⟨by rfl, rfl⟩) (by assumption) ?_
                    try simp only [Act.put, List.setIfInBounds_toArray, List.set_cons_zero, List.set_cons_succ]
                    refine wpAnyH_take (i := 11) (oi := ⟨some 151, _, _, _, _, _⟩) (v := undef) rfl (by kernel_rfl) (by kernel_rfl) (by kernel_rfl) (fun _ _ _ h => h) (Or.inr ⟨by rfl, rfl⟩) (by assumption) ?_
                    try simp only [Act.put, List.setIfInBounds_toArray, List.set_cons_zero, List.set_cons_succ]
                    refine wpAnyH_take (i := 12) (oi := ⟨some 152, _, _, _, _, _⟩) (v := .bool true) rfl (by kernel_rfl) (by kernel_rfl) (by kernel_rfl) (fun _ _ _ h => h) (Or.inl ⟨by rfl, by (intro w hSw; (try dsimp only at hSw); go_simp)⟩) (by assumption) ?_
                    try simp only [Act.put, List.setIfInBounds_toArray, List.set_cons_zero, List.set_cons_succ]
                    refine wpAnyH_take (i := 13) (oi := ⟨some 153, _, _, _, _, _⟩) (v := .bool true) rfl (by kernel_rfl) (by kernel_rfl) (by kernel_rfl) (fun _ _ _ h => h) (Or.inl ⟨by rfl, by (intro w hSw; (try dsimp only at hSw); go_simp)⟩) (by assumption) ?_
                    try simp only [Act.put, List.setIfInBounds_toArray, List.set_cons_zero, List.set_cons_succ]
                    refine wpAnyH_ready (rs := [14]) (by kernel_rfl) (by simp) ?_
                    refine AllReadyH.cons (o := ⟨some 154, _, _, _, _, _⟩) rfl (fun K hK => ?_) AllReadyH.nil
                    go_simp
                    refine (HAW.out _ (HFRR.out.transN (by assumption))).mono ?_
                    rintro e wA ⟨rfl, hA⟩
                    have hSA := Fr.trans' (by assumption) hA
                    go_wp2_with fail
                    refine hK.out _ _ hSA (fun hHeld2 => ?_)
                    clear hHeld
                    try simp only [Act.put, List.setIfInBounds_toArray, List.set_cons_zero, List.set_cons_succ]
                    refine wpAnyH_take (i := 15) (oi := ⟨some 155, _, _, _, _, _⟩) (v := .bool true) rfl (by kernel_rfl) (by kernel_rfl) (by kernel_rfl) (fun _ _ _ h => h) (Or.inl ⟨by rfl, by (intro w hSw; (try dsimp only at hSw); go_simp)⟩) (by assumption) ?_
                    try simp only [Act.put, List.setIfInBounds_toArray, List.set_cons_zero, List.set_cons_succ]
                    refine wpAnyH_take (i := 16) (oi := ⟨some 8, _, _, _, _, _⟩) (v := .bool true) rfl (by kernel_rfl) (by kernel_rfl) (by kernel_rfl) (fun _ _ _ h => h) (Or.inl ⟨by rfl, by (intro w hSw; (try dsimp only at hSw); go_simp)⟩) (by assumption) ?_
                    try simp only [Act.put, List.setIfInBounds_toArray, List.set_cons_zero, List.set_cons_succ]
                    refine wpAnyH_done (by kernel_rfl) ?_ _
                    all_goals go_wp2_with fail
                    all_goals go_meet
                    all_goals exact ⟨rfl, hSA⟩
                  case rest =>
                    obtain ⟨rfl, HZ⟩ := hcut
                    go_wp2_with fail
                    go_ret
                    exact ⟨rfl, (HF3.out.transN HFRR.out).transN HZ.out⟩
end Go.Proofs.YtamdmkjejpkbiaaGreatDoor
