/- Law 12, DecodeCounts: no more symbols are taken than there are pieces; each takes one of what is needed. -/
import Derived.Test.YtamdmkjejpkbiaaGreatDoorLight
import Derived.Test.YtamdmkjejpkbiaaGreatDoorSound
import Derived.Test.YtamdmkjejpkbiaaGreatDoorSys
import Derived.Test.YtamdmkjejpkbiaaGreatDoorZeros
namespace Go.Proofs.YtamdmkjejpkbiaaGreatDoor
open Go Go.RowKit Go.Proofs

theorem bytesV_pad (dat : List UInt8) (n : Nat) : bytesV ((dat ++ List.replicate n 0).take n) = (bytesV dat ++ List.replicate n (Value.int .u8 0)).take n := by simp [bytesV, byteV]
theorem info_u8' : (Tryz.prog.info? 5).map (fun i => (i.zero, i.size, i.bytes)) = some (some (.int .u8 0), 1, 1) := info_u8

set_option maxRecDepth 100000 in
theorem law_counts {w : World} (he : Env w) (s : Nat) (hs : s < 4294967296) (k p z : Int) {v : Value} {cs : List (Nat × List UInt8)} (hc : CsAt w v cs) :
    Calls Tryz.prog 3 #[.agg #[.int .u32 s, .int .i64 k, .int .i64 p, .int .i64 z], v] w fun e w' => e = .returned (.bool true) ∧ Fr NoF w w' := by
  have hA := (Fr.refl NoF w).alloc (.cells #[.int .u32 s, .int .i64 k, .int .i64 p, .int .i64 z] 24)
  have HL := Lib.hid (light_any (hc.frN hA))
  have HA := Lib.hid hA
  have HB := Lib.hid (Blk.new w #[.int .u32 s, .int .i64 k, .int .i64 p, .int .i64 z] 24)
  have HC := Lib.hid hc
  have HE := Lib.hid he
  have hg := he.1
  clear hc he hA
  by_cases hl : lightB cs = true
  case neg =>
    have hl : lightB cs = false := by simpa using hl
    rw [hl] at HL
    go_enter Tryz.func3, Tryz.ntmps3
    go_wp2_with fail
    refine HL.out.mono ?_
    rintro e w1 ⟨rfl, hf1⟩
    have HF1 : Hid (Fr NoF w w1) := HA.out.transN hf1
    clear hf1
    go_wp2_with fail
    refine (awake_any (HE.out.frN HF1.out)).mono ?_
    rintro e w2 ⟨rfl, hf2⟩
    have HF2 : Hid (Fr NoF w w2) := HF1.out.transN hf2
    clear hf2
    go_wp2_with fail
    go_ret
    exact ⟨rfl, HF2.out⟩
  rw [hl] at HL
  have HLB := Lib.hid hl
  clear hl
  go_enter Tryz.func3, Tryz.ntmps3
  go_wp2_with fail
  refine HL.out.mono ?_
  rintro e w1 ⟨rfl, hf1⟩
  have HF1 : Hid (Fr NoF w w1) := HA.out.transN hf1
  have HB1 : Hid (Blk w1 w.heap.size _ _) := HB.out.frN hf1
  have c0 := HB1.out.cell 0 rfl
  have c1 := HB1.out.cell 1 rfl
  have c2 := HB1.out.cell 2 rfl
  have c3 := HB1.out.cell 3 rfl
  clear hf1 HL HB
  have hsz := HB1.out.lt
  go_wp2_with fail
  refine (sound_any s hs k p z (SlAt.ofNil w1) (Nat.zero_le _)).mono ?_
  rintro e w2 ⟨v2, rfl, hf2, _⟩
  have HF2 : Hid (Fr NoF w w2) := HF1.out.transN hf2
  have HB2 : Hid (Blk w2 w.heap.size _ _) := HB1.out.frN hf2
  clear hf2 c0 c1 c2 c3 HB1 HF1
  have c0 := HB2.out.cell 0 rfl
  have c1 := HB2.out.cell 1 rfl
  have c2 := HB2.out.cell 2 rfl
  have c3 := HB2.out.cell 3 rfl
  have z0 := HB2.out.frozen 0
  have z1 := HB2.out.frozen 1
  have z2 := HB2.out.frozen 2
  have z3 := HB2.out.frozen 3
  have hsz2 := HB2.out.lt
  obtain ⟨pv, cap, e, hm, hcs⟩ := HC.out
  subst e
  unfold maxLen at hm
  have HCS := Lib.hid hcs
  clear hcs HC
  obtain ⟨K, hK⟩ : ∃ K, K = 1 + cs.length % 64 := ⟨_, rfl⟩
  have hKi : 1 + (cs.length : Int) % 64 = (K : Int) := by omega
  have hK1 : 1 ≤ K ∧ K ≤ 64 := by omega
  clear hK
  obtain ⟨P, hP⟩ : ∃ P, P = uns p % 17 := ⟨_, rfl⟩
  obtain ⟨Z, hZ⟩ : ∃ Z, Z = soundZ (uns z) 1 := ⟨_, rfl⟩
  have hP1 : P ≤ 16 := by omega
  have hZ1 : 1 ≤ Z ∧ Z ≤ 16 := by rw [hZ]; unfold soundZ; omega
  have hpc : (soundP s (uns z) (uns p) (soundL []).length).cells = #[.int .u32 s, .int .i64 (((1 + Z - 1) / Z : Nat) : Int), .int .i64 P, .int .i64 Z] := by rw [hP, hZ]; rfl
  rw [hpc]
  clear hpc hP hZ
  have hq : (⟨s, K, P, Z⟩ : Par).Ok := ⟨hs, hK1.1, hK1.2, hP1, hZ1.1, hZ1.2⟩
  have HQ := Lib.hid hq
  go_upto_region 4 with (fail)
  go_cut [25] (fun _ wx => Hid (Fr NoF w wx) ∧ Hid (Blk wx w.heap.size (Par.cells ⟨s, K, P, Z⟩) 24))
  case first =>
    go_wp2_with fail
    go_meet
    exact ⟨((((HF2.out.setCell (fun h => absurd h (Nat.lt_irrefl _)) _).setCell (fun h => absurd h (Nat.lt_irrefl _)) _).setCell (fun h => absurd h (Nat.lt_irrefl _)) _).setCell (fun h => absurd h (Nat.lt_irrefl _)) _).setCell (fun h => absurd h (Nat.lt_irrefl _)) _,
      ((((HB2.out.setCell 0 _).setCell 1 _).setCell 2 _).setCell 3 _).setCell 1 _⟩
  case rest =>
    obtain ⟨HF3, HB3⟩ := hcut
    clear c0 c1 c2 c3 z0 z1 z2 z3 HF2 HB2
    obtain ⟨q, hqe⟩ : ∃ q : Par, q = ⟨s, K, P, Z⟩ := ⟨_, rfl⟩
    rw [← hqe] at HQ HB3
    have c0 : wc.cell? ⟨w.heap.size, 0, none⟩ = some (.int .u32 q.ses) := HB3.out.cell 0 rfl
    have c1 : wc.cell? ⟨w.heap.size, 1, none⟩ = some (.int .i64 q.K) := HB3.out.cell 1 rfl
    have c2 : wc.cell? ⟨w.heap.size, 2, none⟩ = some (.int .i64 q.P) := HB3.out.cell 2 rfl
    have c3 : wc.cell? ⟨w.heap.size, 3, none⟩ = some (.int .i64 q.sz) := HB3.out.cell 3 rfl
    have hqK : q.K = K := by rw [hqe]
    rw [← hqK] at hKi hK1
    clear hqe hqK hP1 hZ1 hq
    have hz1 := HQ.out.z1
    have hz2 := HQ.out.z2
    have hn := HQ.out.n2
    have HE3 : Hid (Env wc) := HE.out.frN HF3.out
    have hsz3 := HF3.out.size
    go_wp2_with fail
    refine (dec_new HQ.out HE3.out).mono ?_
    rintro e w3 ⟨b, rfl, hf3, hd3⟩
    have HN3 : Hid (New wc (Sep (decH b q (parMat q q.P) 0) noH) w3) := (New.one hf3 HE3.out.1 hd3).alone (decH_stb _ _ _ _)
    have hnd := HN3.out.needs
    rw [parMat_rank q (Nat.le_refl _), show q.n - q.P = q.K by unfold Par.n; omega] at hnd
    replace c1 := hf3.cellN c1
    replace c3 := hf3.cellN c3
    clear c0 c2 hf3 hd3
    go_wp2_with fail
    refine hnd.mono ?_
    clear hnd
    rintro e w4 ⟨rfl, hf4⟩
    have HN4 : Hid (New wc (Sep (decH b q (parMat q q.P) 0) noH) w4) := HN3.out.frN ((decH_stb _ _ _ _).sep noH_stb) hf4
    have HR0 : Hid (rank (parMat q q.P) = q.P + 0) := parMat_rank q (Nat.le_refl _)
    replace c1 := hf4.cellN c1
    clear hf4 HN3 c3
    go_wp2_with fail
    clear c1
    go_loopw [6, 37] (fun nv i wr => ∃ (k t nd : Nat) (M : Mat), k ≤ cs.length ∧ i = .int .i64 k ∧ nv = .int .i64 nd ∧ Hid (nd + t = q.K) ∧ Hid (New wc (Sep (decH b q M t) noH) wr)) (fun _ i _ => cs.length - (intOf i).toNat)
    case atStart => exact ⟨0, 0, q.K, _, Nat.zero_le _, rfl, rfl, rfl, HN4⟩
    case round =>
      obtain ⟨k, t, nd, M, hk, rfl, rfl, HND, HN⟩ := hrel
      by_cases hlt : k < cs.length
      · obtain ⟨bl, ol, e, hc⟩ := HCS.out (by omega)
        subst e
        obtain ⟨hid, hdl, h3, pd, cd, h4, h5⟩ := hc k hlt
        have hd40 := lightB_get HLB.out hlt
        have HWR : Hid (Fr NoF w wr) := HF3.out.transN HN.out.fr
        have l0 := HWR.out.cellN h3
        have l1 := HWR.out.cellN h4
        have HD5 : Hid (SlAt AllF wr _ _) := h5.frN HWR.out
        clear hc h3 h4 h5
        obtain ⟨c, hce⟩ : ∃ c, c = cs[k] := ⟨_, rfl⟩
        rw [← hce] at hid hdl hd40 l0 l1 HD5
        clear hce
        obtain ⟨id, dat⟩ := c
        dsimp only at hid hdl hd40 l0 l1 HD5
        have HB5 := Lib.hid (HB3.out.frN HN.out.fr)
        have c3 : wr.cell? ⟨w.heap.size, 3, none⟩ = some (.int .i64 q.sz) := HB5.out.cell 3 rfl
        have hwr := HWR.out.size
        go_upto_region 12 with (fail)
        have hcb := Blk.new wr #[.int .u32 id, .slice pd dat.length cd] 36
        have hfa := (Fr.refl NoF wr).alloc (.cells #[.int .u32 id, .slice pd dat.length cd] 36)
        have b1 := hcb.cell 1 rfl
        have b3 := hfa.cellN c3
        have HCB := Lib.hid hcb
        have HFA := Lib.hid hfa
        have HD6 : Hid (SlAt AllF _ _ _) := HD5.out.frN hfa
        have bq0 : (0 : Int) ≤ (q.sz : Int) := by omega
        have bq1 : (q.sz : Int) ≤ (dat.length : Int) + (q.sz : Int) := by omega
        clear hcb hfa c3 l0 l1
        go_cut [9] (fun sv wx => ∃ pz cz, sv = .slice pz q.sz cz ∧ Hid (Fr NoF (wr.alloc (.cells #[.int .u32 id, .slice pd dat.length cd] 36)) wx) ∧ Hid (SlAt AllF wx (.slice pz q.sz cz) (bytesV ((dat ++ List.replicate q.sz 0).take q.sz))))
        case first =>
          go_region_held3 (fun w' => Fr NoF (wr.alloc (.cells #[.int .u32 id, .slice pd dat.length cd] 36)) w' ∧ w'.cell? ⟨wr.heap.size, 1, none⟩ = some (.slice pd dat.length cd) ∧ w'.cell? ⟨w.heap.size, 3, none⟩ = some (.int .i64 q.sz))
            (first | exact ⟨(Fr.refl _ _).drewN _, b1, b3⟩ | exact ⟨by assumption, by assumption, by assumption⟩ | exact ⟨Fr.alloc (And.left (by assumption)) _, by go_keep⟩ | exact ⟨hS4, f1, f3⟩ | exact ⟨hS5, g1, g3⟩)
            (first | (refine step_append_zeros rfl _ _ 28 3 rfl (wr.heap.size + 1) 5 _ 1 .i64 Tryz.underlying28 Tryz.underlying3 cinfo_u8 rfl rfl _ _ _ rfl HO4.out .i64 q.sz rfl (by omega) (by omega) (by decide) hsz4 ?_; intro v5 w5 ho5 hf5; have hS5 : Fr NoF (wr.alloc (.cells #[.int .u32 id, .slice pd dat.length cd] 36)) w5 := hS4.trans (hf5.own HO4.out) (fun i hi hk => by simp at hi; omega); have g1 := hS5.cellN b1; have g3 := hS5.cellN b3; obtain ⟨p5, c5, rfl⟩ := ownsRow_slice ho5; have hc5 := (SlAt.owned ho5).cap.2; have bq2 : (q.sz : Int) ≤ (c5 : Int) := (by omega); have HO5 := Lib.hid ho5; clear ho5 hf5) | (refine step_append_sl rfl _ _ 28 rfl (wr.heap.size + 1) 5 _ 1 Tryz.underlying28 cinfo_u8 rfl _ _ _ rfl (own_emptyD (B := wr.heap.size + 1) (g := wr.heap.size + 1) (by simp) (by omega)) AllF _ (bytesV dat) rfl (HD6.out.frN (And.left (by assumption))) (bytesV_one _) (by rw [bytesV_length]; omega) (by decide) (by simp) ?_; intro v4 w4 ho4 hf4; rw [bytesV_length] at ho4; simp only [Nat.zero_add, List.nil_append] at ho4; have hS4 : Fr NoF (wr.alloc (.cells #[.int .u32 id, .slice pd dat.length cd] 36)) w4 := Fr.trans (And.left (by assumption)) (hf4.own (own_emptyD (W := wr.alloc (.cells #[.int .u32 id, .slice pd dat.length cd] 36)) (B := wr.heap.size + 1) (g := wr.heap.size + 1) (by simp) (Nat.le_refl _))) (fun i hi hk => by simp at hi; omega); have f1 := hS4.cellN b1; have f3 := hS4.cellN b3; have hsz4 : wr.heap.size + 1 ≤ w4.heap.size := (by have := hS4.size; simpa using this); obtain ⟨p4, c4, rfl⟩ := ownsRow_slice ho4; have HO4 := Lib.hid ho4; clear ho4 hf4))
          all_goals go_wp2_with fail
          all_goals go_meet
          refine ⟨p5, c5, rfl, hS5, ?_⟩
          have := ((SlAt.owned HO5.out).take (m := q.sz) (by omega)).mono (G := AllF) (fun _ _ => trivial)
          rw [← bytesV_pad] at this
          exact this
        case rest =>
          obtain ⟨pz, cz, rfl, HF6, HD7⟩ := hcut
          clear b1 b3
          have HN6 : Hid (New _ (Sep (decH b q M t) noH) wc) := HN.out.frN ((decH_stb _ _ _ _).sep noH_stb) (HFA.out.transN HF6.out)
          have d0 : wc.cell? ⟨wr.heap.size, 0, none⟩ = some (.int .u32 id) := HF6.out.cellN (HCB.out.cell 0 rfl)
          obtain ⟨D, hD⟩ : ∃ D, D = (dat ++ List.replicate q.sz 0).take q.sz := ⟨_, rfl⟩
          have hDl : D.length = q.sz := by rw [hD]; simp
          rw [← hD] at HD7
          clear hD
          have ht := HN6.out.take noH_stb HE3.out id hid HD7.out hDl
          obtain ⟨sy, hsy⟩ : ∃ sy, sy = says M (rowN q id) D := ⟨_, rfl⟩
          rw [← hsy] at ht
          have HT := Lib.hid ht
          obtain ⟨M', hM'⟩ : ∃ M', M' = add M (rowN q id) D := ⟨_, rfl⟩
          rw [← hM'] at HT
          clear ht hsy hDl hM' HN6 HD7
          go_wp2_with fail
          refine HT.out.mono ?_
          clear d0 HT
          rintro e w7 ⟨rfl, hn7⟩
          have HN7 := Lib.hid hn7
          have htk : t + (if sy = true then 1 else 0) ≤ q.K := by
            obtain ⟨F, hd, _⟩ := hn7.dec
            have h1 := hd.tk
            have h2 := hd.inv.rank_le
            have h3 : q.n = q.K + q.P := rfl
            omega
          have hrk : q.n - rank M' = q.K - (t + if sy = true then 1 else 0) := by
            obtain ⟨F, hd, _⟩ := hn7.dec
            have h1 := hd.tk
            have h3 : q.n = q.K + q.P := rfl
            omega
          have f1 : w7.cell? ⟨w.heap.size, 1, none⟩ = some (.int .i64 q.K) := (HB3.out.frN hn7.fr).cell 1 rfl
          have hnde := HND.out
          clear hn7
          cases sy with
          | true =>
            simp only [if_true] at htk hrk HN7
            obtain ⟨m, rfl⟩ : ∃ m, nd = m + 1 := ⟨nd - 1, by omega⟩
            rw [show q.K - (t + 1) = m by omega] at hrk
            have HND' : Hid (m + (t + 1) = q.K) := by unfold Hid; omega
            have bb : IntKind.i64.wrap ((q.K : Int) - (m : Int)) = (t : Int) + 1 := by rw [IntKind.wrap_i64]; omega
            have hmb : m ≤ 64 := by have := HND'.out; omega
            have HNE : Hid (∀ (w' : World), Fr NoF w7 w' → Calls Tryz.prog 12 #[.pointer (some ⟨b, 0, none⟩)] w' fun e w'' => e = .returned (.int .i64 (m : Nat)) ∧ Fr NoF w' w'') := fun w' hf => by
              have := (HN7.out.frN ((decH_stb _ _ _ _).sep noH_stb) hf).needs
              rw [hrk] at this
              exact this
            have HTA : Hid (∀ (w' : World), Fr NoF w7 w' → Calls Tryz.prog 14 #[.pointer (some ⟨b, 0, none⟩)] w' fun e w'' => e = .returned (.int .i64 (t + 1 : Nat)) ∧ w' = w'') := fun w' hf => (HN7.out.frN ((decH_stb _ _ _ _).sep noH_stb) hf).taken
            have bm : decide ((m : Int) < 0) = false := decide_eq_false (by omega)
            clear hrk hnde HND htk
            go_wp2_with fail
            go_cut [75] (fun sv wx => sv = .bool false ∧ Hid (Fr NoF w7 wx))
            case first =>
              go_region_held3 (fun w' => Fr NoF w7 w' ∧ w'.cell? ⟨w.heap.size, 1, none⟩ = some (.int .i64 q.K)) (first | exact ⟨(Fr.refl _ _).drewN _, f1⟩ | exact ⟨by assumption, by assumption⟩ | exact ⟨hS8, x1⟩) (first | (go_at_call 12; refine (HNE.out _ (And.left (by assumption))).mono ?_; rintro e w8 ⟨rfl, hf8⟩; have hS8 := Fr.trans' (And.left (by assumption)) hf8; have x1 := hS8.cellN f1) | (go_at_call 14; refine (HTA.out _ hS8).mono ?_; rintro e w9 ⟨rfl, rfl⟩))
              all_goals go_wp2_with fail
              all_goals go_meet
              all_goals exact ⟨rfl, hS8⟩
            case rest =>
              obtain ⟨rfl, HF8⟩ := hcut
              have HN9 : Hid (New _ (Sep (decH b q M' (t + 1)) noH) wc) := HN7.out.frN ((decH_stb _ _ _ _).sep noH_stb) HF8.out
              clear f1 bb bm
              go_wp2_with fail
              go_roundw
              case rel => exact ⟨k + 1, t + 1, m, M', by omega, by go_num, rfl, HND', HN9⟩
              case measure => simp [intOf]; omega
          | false =>
            simp only [Bool.false_eq_true, if_false, Nat.add_zero] at htk hrk HN7
            obtain ⟨m, hmn⟩ : ∃ m, m = nd := ⟨nd, rfl⟩
            subst hmn
            rw [show q.K - t = m by omega] at hrk
            have HND' : Hid (m + t = q.K) := by unfold Hid; omega
            have bb : IntKind.i64.wrap ((q.K : Int) - (m : Int)) = (t : Int) := by rw [IntKind.wrap_i64]; omega
            have hmb : m ≤ 64 := by have := HND'.out; omega
            have HNE : Hid (∀ (w' : World), Fr NoF w7 w' → Calls Tryz.prog 12 #[.pointer (some ⟨b, 0, none⟩)] w' fun e w'' => e = .returned (.int .i64 (m : Nat)) ∧ Fr NoF w' w'') := fun w' hf => by
              have := (HN7.out.frN ((decH_stb _ _ _ _).sep noH_stb) hf).needs
              rw [hrk] at this
              exact this
            have HTA : Hid (∀ (w' : World), Fr NoF w7 w' → Calls Tryz.prog 14 #[.pointer (some ⟨b, 0, none⟩)] w' fun e w'' => e = .returned (.int .i64 (t : Nat)) ∧ w' = w'') := fun w' hf => (HN7.out.frN ((decH_stb _ _ _ _).sep noH_stb) hf).taken
            have bm : decide ((m : Int) < 0) = false := decide_eq_false (by omega)
            clear hrk hnde HND htk
            go_wp2_with fail
            go_cut [75] (fun sv wx => sv = .bool false ∧ Hid (Fr NoF w7 wx))
            case first =>
              go_region_held3 (fun w' => Fr NoF w7 w' ∧ w'.cell? ⟨w.heap.size, 1, none⟩ = some (.int .i64 q.K)) (first | exact ⟨(Fr.refl _ _).drewN _, f1⟩ | exact ⟨by assumption, by assumption⟩ | exact ⟨hS8, x1⟩) (first | (go_at_call 12; refine (HNE.out _ (And.left (by assumption))).mono ?_; rintro e w8 ⟨rfl, hf8⟩; have hS8 := Fr.trans' (And.left (by assumption)) hf8; have x1 := hS8.cellN f1) | (go_at_call 14; refine (HTA.out _ hS8).mono ?_; rintro e w9 ⟨rfl, rfl⟩))
              all_goals go_wp2_with fail
              all_goals go_meet
              all_goals exact ⟨rfl, hS8⟩
            case rest =>
              obtain ⟨rfl, HF8⟩ := hcut
              have HN9 : Hid (New _ (Sep (decH b q M' (t)) noH) wc) := HN7.out.frN ((decH_stb _ _ _ _).sep noH_stb) HF8.out
              clear f1 bb bm
              go_wp2_with fail
              go_roundw
              case rel => exact ⟨k + 1, t, m, M', by omega, by go_num, rfl, HND', HN9⟩
              case measure => simp [intOf]; omega
      · go_wp2_with fail
        refine (awake_any (HE3.out.frN HN.out.fr)).mono ?_
        rintro e w5 ⟨rfl, hf5⟩
        have HF5 : Hid (Fr NoF w w5) := (HF3.out.transN HN.out.fr).transN hf5
        clear hf5
        go_wp2_with fail
        go_ret
        exact ⟨rfl, HF5.out⟩
end Go.Proofs.YtamdmkjejpkbiaaGreatDoor
