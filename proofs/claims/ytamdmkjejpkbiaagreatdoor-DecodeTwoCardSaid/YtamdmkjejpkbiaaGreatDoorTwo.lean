/- Law 12, DecodeTwo: two decoders that hear the same symbols in other orders. -/
import Derived.Test.YtamdmkjejpkbiaaGreatDoorSound
import Derived.Test.YtamdmkjejpkbiaaGreatDoorSys
import Derived.Test.YtamdmkjejpkbiaaGreatDoorOwnH
namespace Go.Proofs.YtamdmkjejpkbiaaGreatDoor
open Go Go.RowKit Go.Proofs

theorem sym_sl {w : World} {g : Nat} {q : Par} {img : List UInt8} {id : Nat} (h : Blk w g (bytesV (symbolL q img id)).toArray 5) (hz : q.sz ≤ 16) : SlAt AllF w (.slice (some ⟨g, 0, none⟩) q.sz q.sz) (bytesV (symbolL q img id)) := by
  have := (SlAt.owned (h.owned (Nat.le_refl _) (by rw [symbolL_length]; omega))).mono (G := AllF) (fun _ _ => trivial)
  rw [symbolL_length] at this
  exact this
theorem ids_step {ids : List Nat} {j x : Nat} (h : ids[j]? = some x) (z : Nat) : ((∃ m, m < j ∧ ids[m]? = some z) ∨ z = x) ↔ ∃ m, m < j + 1 ∧ ids[m]? = some z := by
  constructor
  · rintro (⟨m, h1, h2⟩ | rfl)
    · exact ⟨m, by omega, h2⟩
    · exact ⟨j, by omega, h⟩
  · rintro ⟨m, h1, h2⟩
    by_cases e : m = j
    · subst e
      rw [h] at h2
      exact .inr (Option.some.inj h2).symm
    · exact .inl ⟨m, by omega, h2⟩
theorem ids_step2 {ids : List Nat} {j x k n : Nat} (h : ids[(j + k) % n]? = some x) (z : Nat) : ((∃ m, m < j ∧ ids[(m + k) % n]? = some z) ∨ z = x) ↔ ∃ m, m < j + 1 ∧ ids[(m + k) % n]? = some z := by
  constructor
  · rintro (⟨m, h1, h2⟩ | rfl)
    · exact ⟨m, by omega, h2⟩
    · exact ⟨j, by omega, h⟩
  · rintro ⟨m, h1, h2⟩
    by_cases e : m = j
    · subst e
      rw [h] at h2
      exact .inr (Option.some.inj h2).symm
    · exact .inl ⟨m, by omega, h2⟩
theorem ids_turn {ids : List Nat} {n k : Nat} (hn : n = ids.length) (hk : k ≤ n) (z : Nat) : (∃ m, m < n ∧ ids[(m + k) % n]? = some z) ↔ ∃ m, m < n ∧ ids[m]? = some z := by
  constructor
  · rintro ⟨m, h1, h2⟩
    exact ⟨(m + k) % n, Nat.mod_lt _ (by omega), h2⟩
  · rintro ⟨m, h1, h2⟩
    by_cases e : k ≤ m
    · exact ⟨m - k, by omega, by rw [show m - k + k = m by omega, Nat.mod_eq_of_lt h1]; exact h2⟩
    · exact ⟨m + n - k, by omega, by rw [show m + n - k + k = m + n by omega, Nat.add_mod_right, Nat.mod_eq_of_lt h1]; exact h2⟩

set_option maxRecDepth 100000 in
set_option maxHeartbeats 1000000 in
theorem law_two {w : World} (he : Env w) (s : Nat) (hs : s < 4294967296) (k p z : Int) {v : Value} {l : List UInt8} (hv : SlAt AllF w v (bytesV l)) (hl : l.length ≤ maxLen) {vi : Value} {ids : List Nat} (hids : SlAt AllF w vi (ids.map fun x => Value.int .u32 (x : Nat))) (hidl : ids.length ≤ maxLen) (hidb : ∀ x ∈ ids, x < 4294967296) (turn : Int) :
    Calls Tryz.prog 5 #[.agg #[.int .u32 s, .int .i64 k, .int .i64 p, .int .i64 z], v, vi, .int .i64 turn] w fun e w' => e = .returned (.bool true) ∧ Fr NoF w w' := by
  have hA := (Fr.refl NoF w).alloc (.cells #[.int .u32 s, .int .i64 k, .int .i64 p, .int .i64 z] 24)
  have HA := Lib.hid hA
  have HB := Lib.hid (Blk.new w #[.int .u32 s, .int .i64 k, .int .i64 p, .int .i64 z] 24)
  have HSD := Lib.hid (sound_any s hs k p z (hv.frN hA) hl)
  have HE := Lib.hid he
  have hg := he.1
  have HIDS := Lib.hid hids
  have HIDB := Lib.hid hidb
  obtain ⟨pd, cd, hvi⟩ := hids.shape
  rw [List.length_map] at hvi
  subst hvi
  unfold maxLen at hidl
  clear he hA hv hids hidb
  have hn1 := soundL_length l
  obtain ⟨img, him⟩ : ∃ img, img = soundL l := ⟨_, rfl⟩
  rw [← him] at HSD hn1
  have hi1 : 1 ≤ img.length := by omega
  have hi2 : img.length ≤ 201 := by omega
  obtain ⟨hq, hcn⟩ := soundP_ok (z := uns z) (p := uns p) hs hi1 (show img.length ≤ 1024 by omega)
  replace hcn := hcn (by omega)
  obtain ⟨q, hqe⟩ : ∃ q, q = soundP s (uns z) (uns p) img.length := ⟨_, rfl⟩
  rw [← hqe] at HSD hq hcn
  clear hqe him hn1
  have HQ := Lib.hid hq
  have HCN := Lib.hid hcn
  have hk1 := hq.k1
  have hk2 := hq.k2
  have hz1 := hq.z1
  have hz2 := hq.z2
  clear hq hcn
  obtain ⟨n, hnl⟩ : ∃ n, n = ids.length := ⟨_, rfl⟩
  rw [← hnl] at hidl HIDS ⊢
  have HNL := Lib.hid hnl
  clear hnl
  go_enter Tryz.func5, Tryz.ntmps5
  go_upto_region 1 with (fail)
  go_cut [1] (fun iv wx => ∃ pi ci, iv = .slice pi img.length ci ∧ Hid (Fr NoF w wx) ∧ Hid (Blk wx w.heap.size q.cells 24) ∧ Hid (SlAt AllF wx (.slice pi img.length ci) (bytesV img)))
  case first =>
    have c0 := HB.out.cell 0 rfl
    have c1 := HB.out.cell 1 rfl
    have c2 := HB.out.cell 2 rfl
    have c3 := HB.out.cell 3 rfl
    go_wp2_with fail
    refine HSD.out.mono ?_
    clear HSD c0 c1 c2 c3
    rintro e w2 ⟨v2, rfl, hf2, ho2⟩
    obtain ⟨p2, c2', rfl⟩ := ownsRow_slice ho2
    have HF2 : Hid (Fr NoF w w2) := HA.out.transN hf2
    have HB2 : Hid (Blk w2 w.heap.size _ _) := HB.out.frN hf2
    have HS2 : Hid (SlAt (fun k => w.heap.size + 1 ≤ k) w2 (.slice p2 img.length c2') (bytesV img)) := by
      have := SlAt.owned ho2
      show SlAt _ _ _ _
      simpa using this
    clear hf2 ho2
    have c0 := HB2.out.cell 0 rfl
    have c1 := HB2.out.cell 1 rfl
    have c2 := HB2.out.cell 2 rfl
    have c3 := HB2.out.cell 3 rfl
    have z0 := HB2.out.frozen 0
    have z1 := HB2.out.frozen 1
    have z2 := HB2.out.frozen 2
    have z3 := HB2.out.frozen 3
    unfold Par.cells
    go_wp2_with fail
    go_meet
    have h4 := Fr.set4 w2 w.heap.size (.int .u32 q.ses) (.int .i64 q.K) (.int .i64 q.P) (.int .i64 q.sz)
    exact ⟨p2, c2', rfl, HF2.out.trans h4 (fun i hi e => by have e : i = w.heap.size := e; omega), (((HB2.out.setCell 0 _).setCell 1 _).setCell 2 _).setCell 3 _, (HS2.out.fr h4 (fun i h1 h2 => by have h2 : i = w.heap.size := h2; omega)).mono (fun _ _ => trivial)⟩
  case rest =>
    obtain ⟨pi, ci, rfl, HF3, HB3, HI3⟩ := hcut
    clear HSD HB HA
    have HE3 : Hid (Env wc) := HE.out.frN HF3.out
    have c0 : wc.cell? ⟨w.heap.size, 0, none⟩ = some (.int .u32 q.ses) := HB3.out.cell 0 rfl
    have c1 : wc.cell? ⟨w.heap.size, 1, none⟩ = some (.int .i64 q.K) := HB3.out.cell 1 rfl
    have c2 : wc.cell? ⟨w.heap.size, 2, none⟩ = some (.int .i64 q.P) := HB3.out.cell 2 rfl
    have c3 : wc.cell? ⟨w.heap.size, 3, none⟩ = some (.int .i64 q.sz) := HB3.out.cell 3 rfl
    obtain ⟨wb, hwb⟩ : ∃ wb : World, wb = wc := ⟨_, rfl⟩
    subst hwb
    by_cases hbig : 80 < n
    · go_wp2_with fail
      refine (awake_any HE3.out).mono ?_
      rintro e w5 ⟨rfl, hf5⟩
      have HF5 : Hid (Fr NoF w w5) := HF3.out.transN hf5
      clear hf5
      go_wp2_with fail
      go_ret
      exact ⟨rfl, HF5.out⟩
    have hn80 : n ≤ 80 := by omega
    unfold Par.cells at *
    go_wp2_with fail
    refine (code_new HQ.out HI3.out hi1 (by omega) HCN.out HE3.out.1).mono ?_
    rintro e wa ⟨bh, rfl, hfa, hra⟩
    have HH : Hid (New wb (headH bh q img) wa) := New.one hfa HE3.out.1 hra
    have a0 := hfa.cellN c0
    have a1 := hfa.cellN c1
    have a2 := hfa.cellN c2
    have a3 := hfa.cellN c3
    have HEA : Hid (Env wa) := HE3.out.frN hfa
    clear hfa hra c0 c1 c2 c3
    go_wp2_with fail
    go_cut [10, 11] (fun av bv wx => ∃ ba bb, av = .pointer (some ⟨ba, 0, none⟩) ∧ bv = .pointer (some ⟨bb, 0, none⟩) ∧ Hid (New wb (Sep (headH bh q img) (Sep (decH bb q (parMat q q.P) 0) (decH ba q (parMat q q.P) 0))) wx))
    case first =>
      go_region_held3 (fun w' => Fr NoF wa w' ∧ w'.cell? ⟨w.heap.size, 0, none⟩ = some (.int .u32 q.ses) ∧ w'.cell? ⟨w.heap.size, 1, none⟩ = some (.int .i64 q.K) ∧ w'.cell? ⟨w.heap.size, 2, none⟩ = some (.int .i64 q.P) ∧ w'.cell? ⟨w.heap.size, 3, none⟩ = some (.int .i64 q.sz))
        (first | exact ⟨(Fr.refl _ _).drewN _, a0, a1, a2, a3⟩ | exact ⟨by assumption, by assumption, by assumption, by assumption, by assumption⟩)
        (first | (go_at_call 11; refine (dec_new HQ.out (HEA.out.frN hS1)).mono ?_; rintro e we ⟨bb, rfl, hfe, hre⟩; have hS2 := hS1.transN hfe; have HN2 : Hid (New wb (Sep (Sep (decH ba q (parMat q q.P) 0) (headH bh q img)) (decH bb q (parMat q q.P) 0)) we) := HN1.out.beside ((decH_stb _ _ _ _).sep (headH_stb _ _ _)) (decH_stb _ _ _ _) hfe hre; have e0 := hS2.cellN a0; have e1 := hS2.cellN a1; have e2 := hS2.cellN a2; have e3 := hS2.cellN a3; clear hfe hre) | (go_at_call 11; refine (dec_new HQ.out (HEA.out.frN (And.left (by assumption)))).mono ?_; rintro e wd ⟨ba, rfl, hfd, hrd⟩; have hS1 := Fr.trans' (And.left (by assumption)) hfd; have HN1 : Hid (New wb (Sep (decH ba q (parMat q q.P) 0) (headH bh q img)) wd) := ((HH.out.frN (headH_stb _ _ _) (And.left (by assumption))).beside (headH_stb _ _ _) (decH_stb _ _ _ _) hfd hrd).swap; have b0 := hS1.cellN a0; have b1 := hS1.cellN a1; have b2 := hS1.cellN a2; have b3 := hS1.cellN a3; clear hfd hrd))
      all_goals go_wp2_with fail
      all_goals go_meet
      all_goals exact ⟨ba, bb, rfl, rfl, HN2.out.assoc.rot⟩
    case rest =>
      obtain ⟨ba, bb, rfl, rfl, HN2⟩ := hcut
      clear a0 a1 a2 a3 HH HEA
      go_upto_region 6 with (fail)
      go_cut [12] (fun kv wx => ∃ kk : Nat, kk ≤ n ∧ kv = .int .i64 kk ∧ wx = wc)
      case first =>
        have hun := uns_wrap turn
        obtain ⟨kk, hkk⟩ : ∃ kk : Nat, (uns turn : Int) % ((n : Int) + 1) = (kk : Int) := ⟨uns turn % (n + 1), by rw [Int.natCast_emod]; rfl⟩
        have hkn : kk ≤ n := by
          have h1 : (uns turn : Int) % ((n : Int) + 1) < (n : Int) + 1 := Int.emod_lt_of_pos _ (by omega)
          omega
        clear HIDS HIDB HNL
        go_wp2_with fail
        go_meet
        exact ⟨kk, hkn, rfl, rfl⟩
      case rest =>
        obtain ⟨kk, hkn, rfl, rfl⟩ := hcut
        have hHS := headH_stb bh q img
        go_wp2_with fail
        go_loopw [46] (fun i wr => ∃ (j : Nat) (Ma Mb : Mat) (ta tb : Nat), j ≤ n ∧ i = .int .i64 j ∧ Hid (New wb (Sep (headH bh q img) (Sep (decH bb q Mb tb) (decH ba q Ma ta))) wr) ∧ Hid (DecSt q Ma (fun x => ∃ m, m < j ∧ ids[m]? = some x)) ∧ Hid (DecSt q Mb (fun x => ∃ m, m < j ∧ ids[(m + kk) % n]? = some x)) ∧ Hid (DataOk q.sz (allPieces q img) Ma) ∧ Hid (DataOk q.sz (allPieces q img) Mb)) (fun i _ => n - (intOf i).toNat)
        case atStart => exact ⟨0, _, _, 0, 0, Nat.zero_le _, rfl, HN2, (DecSt.start q).of (fun x => by simp), (DecSt.start q).of (fun x => by simp), DataOk.start img, DataOk.start img⟩
        case round =>
          clear HN2 hHS
          obtain ⟨j, Ma, Mb, ta, tb, hj, rfl, HN, HSA, HSB, HDA, HDB⟩ := hrel
          by_cases hlt : j < n
          · obtain ⟨bl, ol, hpd, _, _, hcl⟩ := (HIDS.out.frN HF3.out).open (by omega)
            subst hpd
            have hnl := HNL.out
            have hjl : j < ids.length := by omega
            obtain ⟨x, hxe⟩ : ∃ x, x = ids[j] := ⟨_, rfl⟩
            have hxb : x < 4294967296 := by rw [hxe]; exact HIDB.out _ (List.getElem_mem _)
            have c0 : wb.cell? ⟨bl, ol + j, none⟩ = some (.int .u32 x) := by
              have := hcl j (by simpa using hjl)
              rw [this, hxe]
              simp
            obtain ⟨m, hme⟩ : ∃ m, m = (j + kk) % n := ⟨_, rfl⟩
            have hml : m < n := by rw [hme]; exact Nat.mod_lt _ (by omega)
            have hmi : ((j : Int) + (kk : Int)) % (n : Int) = (m : Int) := by rw [hme, Int.natCast_emod, Int.natCast_add]
            have hmll : m < ids.length := by omega
            obtain ⟨y, hye⟩ : ∃ y, y = ids[m] := ⟨_, rfl⟩
            have hyb : y < 4294967296 := by rw [hye]; exact HIDB.out _ (List.getElem_mem _)
            have c1 : wb.cell? ⟨bl, ol + m, none⟩ = some (.int .u32 y) := by
              have := hcl m (by simpa using hmll)
              rw [this, hye]
              simp
            have hxs : ids[j]? = some x := by rw [hxe]; exact List.getElem?_eq_getElem hjl
            have hys : ids[(j + kk) % n]? = some y := by rw [← hme, hye]; exact List.getElem?_eq_getElem hmll
            have HXS := Lib.hid hxs
            have HYS := Lib.hid hys
            have d0 := HN.out.fr.cellN c0
            clear hcl hnl hjl hxe hme hmll hye hxs hys
            have bj0 : (0 : Int) ≤ (j : Int) := by omega
            have bj1 : (j : Int) < (n : Int) := by omega
            go_upto_region 10 with (fail)
            go_cut [60] (fun _ wx => Hid (New wb (Sep (headH bh q img) (Sep (decH bb q Mb tb) (decH ba q (add Ma (rowN q x) (symbolL q img x)) (ta + if says Ma (rowN q x) (symbolL q img x) then 1 else 0)))) wx))
            case first =>
              go_region_held3 (fun w' => Fr NoF wb w' ∧ w'.cell? ⟨bl, ol + j, none⟩ = some (.int .u32 x)) (first | exact ⟨HN.out.fr.drewN _, d0⟩ | exact ⟨by assumption, by assumption⟩ | exact ⟨HN5.out.fr, e0⟩) (first | (go_at_call 18; refine (HN.out.symbol2 ((decH_stb _ _ _ _).sep (decH_stb _ _ _ _)) (by first | exact (Fr.refl _ _).drewN _ | exact (Fr.refl _ _).drew | exact Fr.refl _ _) x hxb).mono ?_; rintro e w4 ⟨g, rfl, ⟨hn4, _⟩, hg4, hb4⟩; have hS4 := hn4.fr; have f0 := hS4.cellN c0; have HS4 : Hid (SlAt AllF w4 (.slice (some ⟨g, 0, none⟩) q.sz q.sz) (bytesV (symbolL q img x))) := sym_sl hb4 hz2; have HN4 := Lib.hid hn4.rot.rot; clear hn4 hb4) | (go_at_call 13; refine (HN4.out.take ((headH_stb _ _ _).sep (decH_stb _ _ _ _)) HE3.out x hxb HS4.out (symbolL_length _ _ _)).mono ?_; rintro e w5 ⟨rfl, hn5⟩; have HN5 := Lib.hid hn5.rot; have e0 := hn5.fr.cellN c0; clear hn5))
              all_goals go_wp2_with fail
              all_goals go_meet
              all_goals exact HN5
            case rest =>
              clear HN d0
              have d1 := hcut.out.fr.cellN c1
              have HST' : Hid (DecSt q _ _) := (HSA.out.step x (symbolL q img x)).of (ids' := fun z => ∃ m, m < j + 1 ∧ ids[m]? = some z) (fun z => ids_step HXS.out z)
              have HSB' : Hid (DecSt q _ _) := (HSB.out.step y (symbolL q img y)).of (ids' := fun z => ∃ m, m < j + 1 ∧ ids[(m + kk) % n]? = some z) (fun z => ids_step2 HYS.out z)
              have HDA' : Hid (DataOk q.sz (allPieces q img) _) := HDA.out.sym HSA.out.inv x
              have HDB' : Hid (DataOk q.sz (allPieces q img) _) := HDB.out.sym HSB.out.inv y
              have hsy := hcut.out.symbol ((decH_stb _ _ _ _).sep (decH_stb _ _ _ _)) y hyb
              have HSY := Lib.hid hsy
              clear hsy HSA HSB HDA HDB
              go_wp2_with fail
              refine HSY.out.mono ?_
              clear HSY
              rintro e w7 ⟨g, rfl, hn7, _, hb7⟩
              have hs7 : SlAt AllF w7 (.slice (some ⟨g, 0, none⟩) q.sz q.sz) (bytesV (symbolL q img y)) := sym_sl hb7 hz2
              have htk := hn7.rot.take ((decH_stb _ _ _ _).sep (headH_stb _ _ _)) HE3.out y hyb hs7 (symbolL_length _ _ _)
              have HTK := Lib.hid htk
              clear htk hn7 hb7 hs7 d1 hcut
              go_wp2_with fail
              refine HTK.out.mono ?_
              clear HTK
              rintro e w8 ⟨rfl, hn8⟩
              have HN8 := Lib.hid hn8.rot.rot
              clear hn8
              go_wp2_with fail
              go_roundw
              case rel => exact ⟨j + 1, _, _, _, _, by omega, by go_num, HN8, HST', HSB', HDA', HDB'⟩
              case measure => simp [intOf]; omega
          · have e : j = n := by omega
            subst e
            have hsb2 := HSB.out.of (ids_turn HNL.out hkn)
            have hre : rank Mb = rank Ma := Spans.rank_eq hsb2 HSA.out
            have hta : ta + q.P = rank Ma ∧ rank Ma ≤ q.n := by
              obtain ⟨F, hd, _⟩ := HN.out.rot.rot.dec
              exact ⟨hd.tk, hd.inv.rank_le⟩
            have htb : tb = ta := by
              obtain ⟨F, hd, _⟩ := HN.out.rot.dec
              have := hd.tk
              omega
            subst htb
            have hbbw : bb < wr.heap.size := by
              obtain ⟨F, hd, _⟩ := HN.out.rot.dec
              obtain ⟨_, _, _, hb, _⟩ := hd
              exact hb.lt
            have hreB := hre
            have HRE := Lib.hid hre
            clear hsb2 hre hreB
            by_cases hfull : rank Ma = q.n
            · have HFU := Lib.hid hfull
              clear hfull
              have hia := HN.out.rot.rot.image2 ((headH_stb _ _ _).sep (decH_stb _ _ _ _)) HFU.out HDA.out hi1 (by omega) HCN.out
              go_wp2_with fail
              refine hia.mono ?_
              clear hia HN
              rintro e w11 ⟨va, rfl, hn11, hoa, _, _⟩
              have HN11 := Lib.hid hn11
              have HOA := Lib.hid hoa
              obtain ⟨pa, ca, rfl⟩ := ownsRow_slice hoa
              clear hn11 hoa
              have hib := HN11.out.rot.rot.image2 ((decH_stb _ _ _ _).sep (headH_stb _ _ _)) (HRE.out.trans HFU.out) HDB.out hi1 (by omega) HCN.out
              go_wp2_with fail
              refine hib.mono ?_
              clear hib
              rintro e w12 ⟨vb, rfl, hn12, hob, hf12, hbb⟩
              obtain ⟨pb, cb, rfl⟩ := ownsRow_slice hob
              have HSA12 : Hid (SlAt _ w12 _ (bytesV img)) := (SlAt.owned HOA.out).fr hf12 (fun i h1 h2 => by
                have h2 : i = bb := h2
                have h1 : wr.heap.size ≤ i := h1
                omega)
              have HSB12 : Hid (SlAt _ w12 _ (bytesV img)) := SlAt.owned hob
              have HN12 := Lib.hid hn12.rot.rot
              clear hn12 hob hf12 hbb HN11 HOA
              obtain ⟨nd, hnd⟩ : ∃ nd : Nat, nd = q.n - rank Ma := ⟨_, rfl⟩
              have hna := HN12.out.rot.rot.needs
              have hnb : Hid (∀ (w' : World), Fr NoF w12 w' → Calls Tryz.prog 12 #[.pointer (some ⟨bb, 0, none⟩)] w' fun e w'' => e = .returned (.int .i64 nd) ∧ Fr NoF w' w'') := fun w' hf => by
                have := (HN12.out.frN ((headH_stb _ _ _).sep ((decH_stb _ _ _ _).sep (decH_stb _ _ _ _))) hf).rot.needs
                rw [HRE.out, ← hnd] at this
                exact this
              rw [← hnd] at hna
              have HNA := Lib.hid hna
              clear hna hnd
              go_wp2_with fail
              refine HNA.out.mono ?_
              rintro e w13 ⟨rfl, hf13⟩
              go_wp2_with fail
              refine (hnb.out _ hf13).mono ?_
              rintro e w14 ⟨rfl, hf14⟩
              have hf14' := hf13.trans' hf14
              have HN14 := Lib.hid (HN12.out.frN ((headH_stb _ _ _).sep ((decH_stb _ _ _ _).sep (decH_stb _ _ _ _))) hf14')
              have hcv1 : (convert 28 9 (.slice pa img.length ca)).run Tryz.prog w14 = .ok (.string ⟨img.toArray⟩) w14 := conv_sl (HSA12.out.frN hf14')
              have hcv2 : (convert 28 9 (.slice pb img.length cb)).run Tryz.prog w14 = .ok (.string ⟨img.toArray⟩) w14 := conv_sl (HSB12.out.frN hf14')
              have hcv3 : (convert 28 9 (.slice pi img.length ci)).run Tryz.prog w14 = .ok (.string ⟨img.toArray⟩) w14 := conv_sl (HI3.out.frN HN14.out.fr)
              clear HNA hnb hf13 hf14 hf14'
              go_wp2_with fail
              refine HN14.out.rot.rot.taken.mono ?_
              rintro e w15 ⟨rfl, rfl⟩
              go_wp2_with fail
              refine HN14.out.rot.taken.mono ?_
              rintro e w15 ⟨rfl, rfl⟩
              go_wp2_with fail
              refine (awake_any (HE3.out.frN HN14.out.fr)).mono ?_
              rintro e w16 ⟨rfl, hf16⟩
              have HF16 : Hid (Fr NoF w w16) := (HF3.out.transN HN14.out.fr).transN hf16
              clear hf16
              go_wp2_with fail
              go_ret
              exact ⟨rfl, HF16.out⟩
            · have HFU := Lib.hid hfull
              clear hfull
              have hia := HN.out.rot.rot.imageFew HFU.out img.length
              go_wp2_with fail
              refine hia.mono ?_
              clear hia
              rintro e w11 ⟨rfl, hf11⟩
              have HN11 : Hid (New wb _ w11) := HN.out.frN ((headH_stb _ _ _).sep ((decH_stb _ _ _ _).sep (decH_stb _ _ _ _))) hf11
              clear hf11 HN
              have hib := HN11.out.rot.imageFew (by rw [HRE.out]; exact HFU.out) img.length
              go_wp2_with fail
              refine hib.mono ?_
              clear hib
              rintro e w12 ⟨rfl, hf12⟩
              have HN12 : Hid (New wb (Sep (headH bh q img) (Sep (decH bb q Mb tb) (decH ba q Ma tb))) w12) := HN11.out.frN ((headH_stb _ _ _).sep ((decH_stb _ _ _ _).sep (decH_stb _ _ _ _))) hf12
              clear hf12 HN11
              obtain ⟨nd, hnd⟩ : ∃ nd : Nat, nd = q.n - rank Ma := ⟨_, rfl⟩
              have hna := HN12.out.rot.rot.needs
              have hnb : Hid (∀ (w' : World), Fr NoF w12 w' → Calls Tryz.prog 12 #[.pointer (some ⟨bb, 0, none⟩)] w' fun e w'' => e = .returned (.int .i64 nd) ∧ Fr NoF w' w'') := fun w' hf => by
                have := (HN12.out.frN ((headH_stb _ _ _).sep ((decH_stb _ _ _ _).sep (decH_stb _ _ _ _))) hf).rot.needs
                rw [HRE.out, ← hnd] at this
                exact this
              rw [← hnd] at hna
              have HNA := Lib.hid hna
              clear hna hnd
              go_wp2_with fail
              refine HNA.out.mono ?_
              rintro e w13 ⟨rfl, hf13⟩
              go_wp2_with fail
              refine (hnb.out _ hf13).mono ?_
              rintro e w14 ⟨rfl, hf14⟩
              have hf14' := hf13.trans' hf14
              have HN14 := Lib.hid (HN12.out.frN ((headH_stb _ _ _).sep ((decH_stb _ _ _ _).sep (decH_stb _ _ _ _))) hf14')
              have hcv1 : (convert 28 9 (.slice none 0 0)).run Tryz.prog w14 = .ok (.string ⟨([] : List UInt8).toArray⟩) w14 := conv_sl (SlAt.nil NoF w14)
              have hcv3 : (convert 28 9 (.slice pi img.length ci)).run Tryz.prog w14 = .ok (.string ⟨img.toArray⟩) w14 := conv_sl (HI3.out.frN HN14.out.fr)
              clear HNA hnb hf13 hf14 hf14'
              go_wp2_with fail
              refine HN14.out.rot.rot.taken.mono ?_
              rintro e w15 ⟨rfl, rfl⟩
              go_wp2_with fail
              refine HN14.out.rot.taken.mono ?_
              rintro e w15 ⟨rfl, rfl⟩
              go_wp2_with fail
              refine (awake_any (HE3.out.frN HN14.out.fr)).mono ?_
              rintro e w16 ⟨rfl, hf16⟩
              have HF16 : Hid (Fr NoF w w16) := (HF3.out.transN HN14.out.fr).transN hf16
              clear hf16
              go_wp2_with fail
              go_ret
              exact ⟨rfl, HF16.out⟩
end Go.Proofs.YtamdmkjejpkbiaaGreatDoor
