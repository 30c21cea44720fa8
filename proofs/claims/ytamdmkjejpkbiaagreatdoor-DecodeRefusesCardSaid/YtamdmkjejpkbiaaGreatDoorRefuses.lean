/- Law 12, DecodeRefuses: symbols of another length say nothing; images of another length are not told. -/
import Derived.Test.YtamdmkjejpkbiaaGreatDoorSound
import Derived.Test.YtamdmkjejpkbiaaGreatDoorSys
import Derived.Test.YtamdmkjejpkbiaaGreatDoorOwnH
namespace Go.Proofs.YtamdmkjejpkbiaaGreatDoor
open Go Go.RowKit Go.Proofs

theorem bytesV_append (a b : List UInt8) : bytesV (a ++ b) = bytesV a ++ bytesV b := by simp [bytesV]

set_option maxRecDepth 100000 in
set_option maxHeartbeats 1000000 in
theorem law_refuses {w : World} (he : Env w) (s : Nat) (hs : s < 4294967296) (k p z : Int) {v : Value} {l : List UInt8} (hv : SlAt AllF w v (bytesV l)) (hl : l.length ≤ maxLen) (id : Nat) (hid : id < 4294967296) (more : Int) :
    Calls Tryz.prog 7 #[.agg #[.int .u32 s, .int .i64 k, .int .i64 p, .int .i64 z], v, .int .u32 id, .int .i64 more] w fun e w' => e = .returned (.bool true) ∧ Fr NoF w w' := by
  have hA := (Fr.refl NoF w).alloc (.cells #[.int .u32 s, .int .i64 k, .int .i64 p, .int .i64 z] 24)
  have HA := Lib.hid hA
  have HB := Lib.hid (Blk.new w #[.int .u32 s, .int .i64 k, .int .i64 p, .int .i64 z] 24)
  have HSD := Lib.hid (sound_any s hs k p z (hv.frN hA) hl)
  have HE := Lib.hid he
  have hg := he.1
  clear he hA hv
  have hn1 := soundL_length l
  obtain ⟨img, him⟩ : ∃ img, img = soundL l := ⟨_, rfl⟩
  rw [← him] at HSD hn1
  have hi1 : 1 ≤ img.length := by omega
  have hi2 : img.length ≤ 201 := by omega
  obtain ⟨hq, hcn⟩ := soundP_ok (z := uns z) (p := uns p) hs hi1 (show img.length ≤ 1024 by omega)
  replace hcn := hcn (by omega)
  obtain ⟨q, hqe⟩ : ∃ q, q = soundP s (uns z) (uns p) img.length := ⟨_, rfl⟩
  rw [← hqe] at HSD hq hcn
  clear hqe him hn1
  have HQ := Lib.hid hq
  have HCN := Lib.hid hcn
  have hk1 := hq.k1
  have hk2 := hq.k2
  have hz1 := hq.z1
  have hz2 := hq.z2
  clear hq hcn
  go_enter Tryz.func7, Tryz.ntmps7
  go_upto_region 1 with (fail)
  go_cut [1] (fun iv wx => ∃ pi ci, iv = .slice pi img.length ci ∧ Hid (Fr NoF w wx) ∧ Hid (Blk wx w.heap.size q.cells 24) ∧ Hid (SlAt AllF wx (.slice pi img.length ci) (bytesV img)))
  case first =>
    have c0 := HB.out.cell 0 rfl
    have c1 := HB.out.cell 1 rfl
    have c2 := HB.out.cell 2 rfl
    have c3 := HB.out.cell 3 rfl
    go_wp2_with fail
    refine HSD.out.mono ?_
    clear HSD c0 c1 c2 c3
    rintro e w2 ⟨v2, rfl, hf2, ho2⟩
    obtain ⟨p2, c2', rfl⟩ := ownsRow_slice ho2
    have HF2 : Hid (Fr NoF w w2) := HA.out.transN hf2
    have HB2 : Hid (Blk w2 w.heap.size _ _) := HB.out.frN hf2
    have HS2 : Hid (SlAt (fun k => w.heap.size + 1 ≤ k) w2 (.slice p2 img.length c2') (bytesV img)) := by
      have := SlAt.owned ho2
      show SlAt _ _ _ _
      simpa using this
    clear hf2 ho2
    have c0 := HB2.out.cell 0 rfl
    have c1 := HB2.out.cell 1 rfl
    have c2 := HB2.out.cell 2 rfl
    have c3 := HB2.out.cell 3 rfl
    have z0 := HB2.out.frozen 0
    have z1 := HB2.out.frozen 1
    have z2 := HB2.out.frozen 2
    have z3 := HB2.out.frozen 3
    unfold Par.cells
    go_wp2_with fail
    go_meet
    have h4 := Fr.set4 w2 w.heap.size (.int .u32 q.ses) (.int .i64 q.K) (.int .i64 q.P) (.int .i64 q.sz)
    exact ⟨p2, c2', rfl, HF2.out.trans h4 (fun i hi e => by have e : i = w.heap.size := e; omega), (((HB2.out.setCell 0 _).setCell 1 _).setCell 2 _).setCell 3 _, (HS2.out.fr h4 (fun i h1 h2 => by have h2 : i = w.heap.size := h2; omega)).mono (fun _ _ => trivial)⟩
  case rest =>
    obtain ⟨pi, ci, rfl, HF3, HB3, HI3⟩ := hcut
    clear HSD HB HA
    have HE3 : Hid (Env wc) := HE.out.frN HF3.out
    have c0 : wc.cell? ⟨w.heap.size, 0, none⟩ = some (.int .u32 q.ses) := HB3.out.cell 0 rfl
    have c1 : wc.cell? ⟨w.heap.size, 1, none⟩ = some (.int .i64 q.K) := HB3.out.cell 1 rfl
    have c2 : wc.cell? ⟨w.heap.size, 2, none⟩ = some (.int .i64 q.P) := HB3.out.cell 2 rfl
    have c3 : wc.cell? ⟨w.heap.size, 3, none⟩ = some (.int .i64 q.sz) := HB3.out.cell 3 rfl
    obtain ⟨wb, hwb⟩ : ∃ wb : World, wb = wc := ⟨_, rfl⟩
    subst hwb
    go_upto_region 2 with (fail)
    go_cut [9, 10] (fun hv dv wx => ∃ bh bd, hv = .pointer (some ⟨bh, 0, none⟩) ∧ dv = .pointer (some ⟨bd, 0, none⟩) ∧ Hid (New wb (Sep (headH bh q img) (decH bd q (parMat q q.P) 0)) wx))
    case first =>
      unfold Par.cells at *
      go_region_held3 (fun w' => Fr NoF wb w' ∧ w'.cell? ⟨w.heap.size, 0, none⟩ = some (.int .u32 q.ses) ∧ w'.cell? ⟨w.heap.size, 1, none⟩ = some (.int .i64 q.K) ∧ w'.cell? ⟨w.heap.size, 2, none⟩ = some (.int .i64 q.P) ∧ w'.cell? ⟨w.heap.size, 3, none⟩ = some (.int .i64 q.sz))
        (first | exact ⟨(Fr.refl _ _).drewN _, c0, c1, c2, c3⟩ | exact ⟨by assumption, by assumption, by assumption, by assumption, by assumption⟩)
        (first | (go_at_call 17; refine (code_new HQ.out (HI3.out.frN (And.left (by assumption))) hi1 (by omega) HCN.out (Nat.le_trans HE3.out.1 (Fr.size (And.left (by assumption))))).mono ?_; rintro e wa ⟨bh, rfl, hfa, hra⟩; have hS1 := Fr.trans' (And.left (by assumption)) hfa; have HH : Hid (New wb (headH bh q img) wa) := New.base (New.one hfa (Nat.le_trans HE3.out.1 (Fr.size (And.left (by assumption)))) hra) (headH_stb _ _ _) (And.left (by assumption)) HE3.out.1; have a0 := hS1.cellN c0; have a1 := hS1.cellN c1; have a2 := hS1.cellN c2; have a3 := hS1.cellN c3; clear hfa hra) | (go_at_call 11; refine (dec_new HQ.out (HE3.out.frN hS1)).mono ?_; rintro e wd ⟨bd, rfl, hfd, hrd⟩; have hS2 := hS1.transN hfd; have HN : Hid (New wb (Sep (headH bh q img) (decH bd q (parMat q q.P) 0)) wd) := HH.out.beside (headH_stb _ _ _) (decH_stb _ _ _ _) hfd hrd; have b0 := hS2.cellN c0; have b1 := hS2.cellN c1; have b2 := hS2.cellN c2; have b3 := hS2.cellN c3; clear hfd hrd))
      all_goals go_wp2_with fail
      all_goals go_meet
      all_goals exact ⟨bh, bd, rfl, rfl, HN⟩
    case rest =>
      obtain ⟨bh, bd, rfl, rfl, HN⟩ := hcut
      clear c0 c1 c2 c3
      have hsl := symbolL_length q img id
      obtain ⟨sym, hsym⟩ : ∃ sym, sym = symbolL q img id := ⟨_, rfl⟩
      rw [← hsym] at hsl
      have hgl := HE3.out.1
      go_wp2_with fail
      have hE := ((HN.out.beside ((headH_stb _ _ _).sep (decH_stb _ _ _ _)) (ownH_stb 5 (.slice (some ⟨wc.heap.size, 0, none⟩) 0 0) []) ((Fr.refl _ _).alloc _) (ownH.empty rfl HN.out.g)).assoc).symbol ((decH_stb _ _ _ _).sep (ownH_stb _ _ _)) id hid
      rw [← hsym] at hE
      have HSM := Lib.hid hsym
      clear hsym
      refine hE.mono ?_
      clear hE HN
      rintro e w4 ⟨g, rfl, hn4, hg4, hb4⟩
      have HB4 := Lib.hid hb4
      have HN4 : Hid (New wb (Sep (ownH 5 _ _) (Sep (headH bh q img) (decH bd q (parMat q q.P) 0))) w4) := hn4.rot.rot
      clear hn4 hb4
      obtain ⟨F4, k4, _, m4⟩ := HN4.out.first ((headH_stb _ _ _).sep (decH_stb _ _ _ _))
      have hgl4 := HN4.out.g
      have hs4 : SlAt AllF w4 (.slice (some ⟨g, 0, none⟩) q.sz q.sz) (bytesV sym) := by
        have := (SlAt.owned (HB4.out.owned (Nat.le_refl _) (by omega))).mono (G := AllF) (fun _ _ => trivial)
        rw [hsl] at this
        exact this
      have HS4 := Lib.hid hs4
      have HK4 := Lib.hid k4
      have HM4 := Lib.hid m4
      clear k4 m4 hs4
      go_wp2_with (at_builtin; refine wpList_append_H rfl _ _ 28 rfl _ 1 Tryz.underlying28 cinfo_u8 rfl rfl HK4.out _ rfl HS4.out (bytesV_one _) (by simp [bytesV_length]; omega) (by decide) hgl4 ?_)
      intro v5 w5 hf5 ho5
      have HN5 : Hid (New wb (Sep (ownH 5 v5 (bytesV sym)) (Sep (headH bh q img) (decH bd q (parMat q q.P) 0))) w5) := HM4.out _ (ownH_stb _ _ _) _ hf5 ho5
      clear hf5 ho5 HK4 HM4 HN4 HB4 HS4
      obtain ⟨F5, k5, _, m5⟩ := HN5.out.first2 (ownH_stb _ _ _) ((headH_stb _ _ _).sep (decH_stb _ _ _ _)) ((Fr.refl NoF w5).alloc (.cells #[.int .u8 1] 5))
      obtain ⟨p5, c5, rfl⟩ := k5.shape
      have HK5 := Lib.hid k5
      have HM5 := Lib.hid m5
      have hgl5 := HN5.out.g
      clear k5 m5
      go_wp2_with (at_builtin; refine wpList_append_H rfl _ _ 28 rfl _ 1 Tryz.underlying28 cinfo_u8 rfl rfl HK5.out _ rfl (SlAt.oneA rfl) (fun u hu => by simp at hu; subst hu; rfl) (by simp [bytesV_length]; omega) (by decide) (by simp; omega) ?_)
      intro v6 w6 hf6 ho6
      have HN6o := HM5.out _ (ownH_stb _ _ _) _ hf6 ho6
      obtain ⟨p6, c6, rfl⟩ := ho6.shape
      have HN6 : Hid (New wb (Sep (decH bd q (parMat q q.P) 0) (headH bh q img)) w6) := (HN6o.1.drop ((headH_stb _ _ _).sep (decH_stb _ _ _ _))).swap
      clear hf6 ho6 HK5 HM5 HN5 HN6o
      have hll : (bytesV sym ++ [Value.int .u8 1]).length = q.sz + 1 := by simp [bytesV_length, hsl]
      rw [hll]
      have hst := (decH_stb bd q (parMat q q.P) 0).sep (headH_stb bh q img)
      have HTB : Hid (∀ (w' : World), Fr NoF w6 w' → ∀ (pd : Option Addr) (n c : Nat), n ≠ q.sz → Calls Tryz.prog 13 #[.pointer (some ⟨bd, 0, none⟩), .int .u32 id, .slice pd n c] w' fun e w'' => e = .returned (.bool false) ∧ Fr NoF w' w'') := fun w' hf pd n c hn => (HN6.out.frN hst hf).takeBad id hid hn
      have HTA : Hid (∀ (w' : World), Fr NoF w6 w' → Calls Tryz.prog 14 #[.pointer (some ⟨bd, 0, none⟩)] w' fun e w'' => e = .returned (.int .i64 0) ∧ w' = w'') := fun w' hf => (HN6.out.frN hst hf).taken
      have HNE : Hid (∀ (w' : World), Fr NoF w6 w' → Calls Tryz.prog 12 #[.pointer (some ⟨bd, 0, none⟩)] w' fun e w'' => e = .returned (.int .i64 q.K) ∧ Fr NoF w' w'') := fun w' hf => by
        have := (HN6.out.frN hst hf).needs
        rw [parMat_rank q (Nat.le_refl _), show q.n - q.P = q.K by unfold Par.n; omega] at this
        exact this
      have c1 : w6.cell? ⟨w.heap.size, 1, none⟩ = some (.int .i64 q.K) := (HB3.out.frN HN6.out.fr).cell 1 rfl
      clear hst hll
      go_upto_region 4 with (fail)
      go_cut [59] (fun sv wx => sv = .bool false ∧ Hid (Fr NoF w6 wx))
      case first =>
        go_region_held3 (fun w' => Fr NoF w6 w' ∧ w'.cell? ⟨w.heap.size, 1, none⟩ = some (.int .i64 q.K)) (first | exact ⟨(Fr.refl _ _).drewN _, c1⟩ | exact ⟨by assumption, by assumption⟩) (first | (go_at_call 13; refine (HTB.out _ (And.left (by assumption)) _ _ _ (by omega)).mono ?_; rintro e w8 ⟨rfl, hf8⟩; have hS8 := Fr.trans' (And.left (by assumption)) hf8; have x1 := hS8.cellN c1) | (go_at_call 12; refine (HNE.out _ (And.left (by assumption))).mono ?_; rintro e w8 ⟨rfl, hf8⟩; have hS8 := Fr.trans' (And.left (by assumption)) hf8; have x1 := hS8.cellN c1) | (go_at_call 14; refine (HTA.out _ (And.left (by assumption))).mono ?_; rintro e w9 ⟨rfl, rfl⟩))
        all_goals go_wp2_with fail
        all_goals go_meet
        all_goals exact ⟨rfl, by assumption⟩
      case rest =>
        obtain ⟨rfl, HF7⟩ := hcut
        have HN7 : Hid (New wb (Sep (decH bd q (parMat q q.P) 0) (headH bh q img)) wc) := HN6.out.frN ((decH_stb _ _ _ _).sep (headH_stb _ _ _)) HF7.out
        clear HTB HTA HNE c1 HN6 HF7
        have him := HN7.out.imageFew (by rw [parMat_rank q (Nat.le_refl _)]; unfold Par.n; omega) img.length
        go_wp2_with fail
        refine him.mono ?_
        clear him
        rintro e w8 ⟨rfl, hf8⟩
        have HN8 : Hid (New wb (Sep (decH bd q (parMat q q.P) 0) (headH bh q img)) w8) := HN7.out.frN ((decH_stb _ _ _ _).sep (headH_stb _ _ _)) hf8
        have c1 : w8.cell? ⟨w.heap.size, 1, none⟩ = some (.int .i64 q.K) := (HB3.out.frN HN8.out.fr).cell 1 rfl
        clear hf8 HN7
        go_wp2_with fail
        clear c1
        go_loopw [70] (fun i wr => ∃ (j : Nat) (M : Mat), j ≤ q.K ∧ i = .int .i64 j ∧ Hid (New wb (Sep (decH bd q M j) (headH bh q img)) wr) ∧ Hid (DecSt q M (fun x => x < j)) ∧ Hid (DataOk q.sz (allPieces q img) M)) (fun i _ => q.K - (intOf i).toNat)
        case atStart => exact ⟨0, _, Nat.zero_le _, rfl, HN8, (DecSt.start q).of (fun x => by simp), DataOk.start img⟩
        case round =>
          obtain ⟨j, M, hj, rfl, HN, HST, HDA⟩ := hrel
          by_cases hlt : j < q.K
          · have hsy := (HN.out.swap).symbol (decH_stb _ _ _ _) j (by omega)
            go_wp2_with fail
            refine hsy.mono ?_
            clear hsy
            rintro e w9 ⟨g, rfl, hn9, _, hb9⟩
            have hs9 : SlAt AllF w9 (.slice (some ⟨g, 0, none⟩) q.sz q.sz) (bytesV (symbolL q img j)) := by
              have := (SlAt.owned (hb9.owned (Nat.le_refl _) (by rw [symbolL_length]; omega))).mono (G := AllF) (fun _ _ => trivial)
              rw [symbolL_length] at this
              exact this
            have htk := hn9.swap.take (headH_stb _ _ _) HE3.out j (by omega) hs9 (symbolL_length _ _ _)
            rw [HST.out.new hlt (fun x hx => ⟨by omega, by omega⟩) (symbolL q img j)] at htk
            simp only [if_true] at htk
            clear hn9 hb9 hs9
            have HTK := Lib.hid htk
            clear htk
            go_wp2_with fail
            refine HTK.out.mono ?_
            clear HTK
            rintro e w10 ⟨rfl, hn10⟩
            have HN10 := Lib.hid hn10
            have HST' : Hid (DecSt q _ (fun x => x < j + 1)) := (HST.out.step j (symbolL q img j)).of (fun x => by omega)
            have HDA' : Hid (DataOk q.sz (allPieces q img) _) := HDA.out.sym HST.out.inv j
            clear hn10
            go_wp2_with fail
            go_roundw
            case rel => exact ⟨j + 1, _, by omega, by go_num, HN10, HST', HDA'⟩
            case measure => simp [intOf]; omega
          · have e : j = q.K := by omega
            subst e
            have hrk := HST.out.full (fun i hi => hi)
            have HRK := Lib.hid hrk
            clear hrk
            have c3 : wr.cell? ⟨w.heap.size, 3, none⟩ = some (.int .i64 q.sz) := (HB3.out.frN HN.out.fr).cell 3 rfl
            have hi1 := HN.out.imageLen HRK.out ((img.length : Int) + (q.sz : Int)) (fun w => by
              have := count_in (w := w) (img.length + q.sz) q.sz (by omega) (by omega) hz1 hz2
              rw [Int.natCast_add] at this
              exact this) (count_more HCN.out hk1)
            go_wp2_with fail
            refine hi1.mono ?_
            clear hi1
            rintro e w11 ⟨rfl, hf11⟩
            have HN11 : Hid (New wb (Sep (decH bd q M q.K) (headH bh q img)) w11) := HN.out.frN ((decH_stb _ _ _ _).sep (headH_stb _ _ _)) hf11
            clear hf11 HN c3
            have hi2 := HN11.out.imageLen HRK.out 0 (c := 0) (fun w => count_out (w := w) 0 q.sz (.inl (by omega))) (by omega)
            go_wp2_with fail
            refine hi2.mono ?_
            clear hi2
            rintro e w12 ⟨rfl, hf12⟩
            have HN12 : Hid (New wb (Sep (decH bd q M q.K) (headH bh q img)) w12) := HN11.out.frN ((decH_stb _ _ _ _).sep (headH_stb _ _ _)) hf12
            clear hf12 HN11
            have hi3 := HN12.out.image (headH_stb _ _ _) HRK.out HDA.out hi1 (by omega) HCN.out
            go_wp2_with fail
            refine hi3.mono ?_
            clear hi3
            rintro e w13 ⟨v13, rfl, hn13, ho13⟩
            have HN13 := Lib.hid hn13
            obtain ⟨p13, c13, rfl⟩ := ownsRow_slice ho13
            have hcv1 : (convert 28 9 (.slice p13 img.length c13)).run Tryz.prog w13 = .ok (.string ⟨img.toArray⟩) w13 := conv_sl (SlAt.owned ho13)
            have hcv2 : (convert 28 9 (.slice pi img.length ci)).run Tryz.prog w13 = .ok (.string ⟨img.toArray⟩) w13 := conv_sl (HI3.out.frN hn13.fr)
            have hsa := HN13.out.says HE3.out id hid
            rw [HST.out.inv.full_says HRK.out [] (rowN_lt (p := q) id)] at hsa
            clear hn13 ho13 HN12
            have HSA := Lib.hid hsa
            clear hsa
            go_wp2_with fail
            refine HSA.out.mono ?_
            clear HSA hcv1 hcv2
            rintro e w14 ⟨rfl, hf14⟩
            have HN14 : Hid (New wb (Sep (decH bd q M q.K) (headH bh q img)) w14) := HN13.out.frN ((decH_stb _ _ _ _).sep (headH_stb _ _ _)) hf14
            clear hf14 HN13
            go_wp2_with fail
            refine (awake_any (HE3.out.frN HN14.out.fr)).mono ?_
            rintro e w15 ⟨rfl, hf15⟩
            have HF15 : Hid (Fr NoF w w15) := (HF3.out.transN HN14.out.fr).transN hf15
            clear hf15
            go_wp2_with fail
            go_ret
            exact ⟨rfl, HF15.out⟩
end Go.Proofs.YtamdmkjejpkbiaaGreatDoor
