/- A decoder: the image. -/
import Derived.Test.YtamdmkjejpkbiaaGreatDoorDec2
namespace Go.Proofs.YtamdmkjejpkbiaaGreatDoor
open Go Go.RowKit Go.Proofs

set_option maxRecDepth 100000 in
set_option maxHeartbeats 2000000 in
/-- Not enough yet: no image. -/
theorem dec_image_few {w : World} {F : Nat → Prop} {b t : Nat} {p : Par} {M : Mat} (h : DecRep w F b p M t) (hr : rank M ≠ p.n) (len : Int) :
    Calls Tryz.prog 15 #[.pointer (some ⟨b, 0, none⟩), .int .i64 len] w fun e w' => e = .returned (.tuple #[.slice none 0 0, .bool false]) ∧ Fr NoF w w' := by
  have hrl := h.inv.rank_le
  have hn := h.ok.n2
  have HD := Lib.hid (fun (w' : World) (hf : Fr NoF w w') => dec_needs (h.frN hf))
  obtain ⟨q, hq⟩ : ∃ q, p.n - rank M = q + 1 := ⟨p.n - rank M - 1, by omega⟩
  rw [hq] at HD
  obtain ⟨bm, hm, hFb, c0, c1, c2, c3, c4, _⟩ := h.open
  clear h hm hq hrl hr
  have hA := (Fr.refl NoF w).alloc (.cells #[.pointer (some ⟨b, 0, none⟩)] 32)
  have hx := (Blk.new w #[.pointer (some ⟨b, 0, none⟩)] 32).cell 0 rfl
  have HFA := Lib.hid hA
  replace c1 := hA.cellN c1
  replace c3 := hA.cellN c3
  clear hA
  go_enter Tryz.func15, Tryz.ntmps15
  go_wp2_with fail
  go_cut [27] (fun sv wx => sv = .bool true ∧ Hid (Fr NoF w wx))
  case first =>
    refine wp_region_held_drew (S := (fun w' => Fr NoF (w.alloc (.cells #[.pointer (some ⟨b, 0, none⟩)] 32)) w' ∧ w'.cell? ⟨w.heap.size, 0, none⟩ = some (.pointer (some ⟨b, 0, none⟩)))) (by kernel_rfl) ⟨(Fr.refl _ _).drewN _, hx⟩ (fun hHeld => ?_)
    refine wpAnyH_take (i := 0) (oi := ⟨some 6, _, _, _, _, _⟩) (v := .pointer (some ⟨b, 0, none⟩)) rfl (by kernel_rfl) (by kernel_rfl) (by kernel_rfl) (fun _ _ _ h => h) (Or.inl ⟨by rfl, by (intro w hSw; (try dsimp only at hSw); go_simp)⟩) (by assumption) ?_
    try simp only [Act.put, List.setIfInBounds_toArray, List.set_cons_zero, List.set_cons_succ]
    refine wpAnyH_take (i := 1) (oi := ⟨some 7, _, _, _, _, _⟩) (v := .bool false) rfl (by kernel_rfl) (by kernel_rfl) (by kernel_rfl) (fun _ _ _ h => h) (Or.inl ⟨by rfl, by (intro w hSw; (try dsimp only at hSw); go_simp)⟩) (by assumption) ?_
    try simp only [Act.put, List.setIfInBounds_toArray, List.set_cons_zero, List.set_cons_succ]
    refine wpAnyH_take (i := 2) (oi := ⟨some 8, _, _, _, _, _⟩) (v := .bool false) rfl (by kernel_rfl) (by kernel_rfl) (by kernel_rfl) (fun _ _ _ h => h) (Or.inl ⟨by rfl, by (intro w hSw; (try dsimp only at hSw); go_simp)⟩) (by assumption) ?_
    try simp only [Act.put, List.setIfInBounds_toArray, List.set_cons_zero, List.set_cons_succ]
    refine wpAnyH_take (i := 3) (oi := ⟨some 9, _, _, _, _, _⟩) (v := .pointer (some ⟨b, 0, none⟩)) rfl (by kernel_rfl) (by kernel_rfl) (by kernel_rfl) (fun _ _ _ h => h) (Or.inl ⟨by rfl, by (intro w hSw; (try dsimp only at hSw); go_simp)⟩) (by assumption) ?_
    try simp only [Act.put, List.setIfInBounds_toArray, List.set_cons_zero, List.set_cons_succ]
    refine wpAnyH_ready (rs := [4]) (by kernel_rfl) (by simp) ?_
    refine AllReadyH.cons (o := ⟨some 10, _, _, _, _, _⟩) rfl (fun K hK => ?_) AllReadyH.nil
    go_simp
    refine (HD.out _ (HFA.out.transN (And.left (by assumption)))).mono ?_
    rintro e w1 ⟨rfl, hf⟩
    have hS1 := Fr.trans' (And.left (by assumption)) hf
    have dx := hS1.cellN hx
    go_wp2_with fail
    refine hK.out _ _ ⟨hS1, dx⟩ (fun hHeld2 => ?_)
    clear hHeld
    try simp only [Act.put, List.setIfInBounds_toArray, List.set_cons_zero, List.set_cons_succ]
    refine wpAnyH_take (i := 5) (oi := ⟨some 11, _, _, _, _, _⟩) (v := .bool true) rfl (by kernel_rfl) (by kernel_rfl) (by kernel_rfl) (fun _ _ _ h => h) (Or.inl ⟨by rfl, by (intro w hSw; (try dsimp only at hSw); go_simp)⟩) (by assumption) ?_
    try simp only [Act.put, List.setIfInBounds_toArray, List.set_cons_zero, List.set_cons_succ]
    refine wpAnyH_take (i := 6) (oi := ⟨some 12, _, _, _, _, _⟩) (v := .bool true) rfl (by kernel_rfl) (by kernel_rfl) (by kernel_rfl) (fun _ _ _ h => h) (Or.inl ⟨by rfl, by (intro w hSw; (try dsimp only at hSw); go_simp)⟩) (by assumption) ?_
    try simp only [Act.put, List.setIfInBounds_toArray, List.set_cons_zero, List.set_cons_succ]
    refine wpAnyH_take (i := 7) (oi := ⟨some 13, _, _, _, _, _⟩) (v := .bool true) rfl (by kernel_rfl) (by kernel_rfl) (by kernel_rfl) (fun _ _ _ h => h) (Or.inl ⟨by rfl, by (intro w hSw; (try dsimp only at hSw); go_simp)⟩) (by assumption) ?_
    try simp only [Act.put, List.setIfInBounds_toArray, List.set_cons_zero, List.set_cons_succ]
    refine wpAnyH_take (i := 8) (oi := ⟨some 14, _, _, _, _, _⟩) (v := undef) rfl (by kernel_rfl) (by kernel_rfl) (by kernel_rfl) (fun _ _ _ h => h) (Or.inr ⟨by rfl, rfl⟩) (by assumption) ?_
    try simp only [Act.put, List.setIfInBounds_toArray, List.set_cons_zero, List.set_cons_succ]
    refine wpAnyH_take (i := 9) (oi := ⟨some 15, _, _, _, _, _⟩) (v := undef) rfl (by kernel_rfl) (by kernel_rfl) (by kernel_rfl) (fun _ _ _ h => h) (Or.inr ⟨by rfl, rfl⟩) (by assumption) ?_
    try simp only [Act.put, List.setIfInBounds_toArray, List.set_cons_zero, List.set_cons_succ]
    refine wpAnyH_take (i := 10) (oi := ⟨some 16, _, _, _, _, _⟩) (v := undef) rfl (by kernel_rfl) (by kernel_rfl) (by kernel_rfl) (fun _ _ _ h => h) (Or.inr ⟨by rfl, rfl⟩) (by assumption) ?_
    try simp only [Act.put, List.setIfInBounds_toArray, List.set_cons_zero, List.set_cons_succ]
    refine wpAnyH_take (i := 11) (oi := ⟨some 17, _, _, _, _, _⟩) (v := undef) rfl (by kernel_rfl) (by kernel_rfl) (by kernel_rfl) (fun _ _ _ h => h) (Or.inr ⟨by rfl, rfl⟩) (by assumption) ?_
    try simp only [Act.put, List.setIfInBounds_toArray, List.set_cons_zero, List.set_cons_succ]
    refine wpAnyH_take (i := 12) (oi := ⟨some 18, _, _, _, _, _⟩) (v := undef) rfl (by kernel_rfl) (by kernel_rfl) (by kernel_rfl) (fun _ _ _ h => h) (Or.inr ⟨by rfl, rfl⟩) (by assumption) ?_
    try simp only [Act.put, List.setIfInBounds_toArray, List.set_cons_zero, List.set_cons_succ]
    refine wpAnyH_take (i := 13) (oi := ⟨some 19, _, _, _, _, _⟩) (v := undef) rfl (by kernel_rfl) (by kernel_rfl) (by kernel_rfl) (fun _ _ _ h => h) (Or.inr ⟨by rfl, rfl⟩) (by assumption) ?_
    try simp only [Act.put, List.setIfInBounds_toArray, List.set_cons_zero, List.set_cons_succ]
    refine wpAnyH_take (i := 14) (oi := ⟨some 20, _, _, _, _, _⟩) (v := undef) rfl (by kernel_rfl) (by kernel_rfl) (by kernel_rfl) (fun _ _ _ h => h) (Or.inr ⟨by rfl, rfl⟩) (by assumption) ?_
    try simp only [Act.put, List.setIfInBounds_toArray, List.set_cons_zero, List.set_cons_succ]
    refine wpAnyH_take (i := 15) (oi := ⟨some 21, _, _, _, _, _⟩) (v := undef) rfl (by kernel_rfl) (by kernel_rfl) (by kernel_rfl) (fun _ _ _ h => h) (Or.inr ⟨by rfl, rfl⟩) (by assumption) ?_
    try simp only [Act.put, List.setIfInBounds_toArray, List.set_cons_zero, List.set_cons_succ]
    refine wpAnyH_take (i := 16) (oi := ⟨some 22, _, _, _, _, _⟩) (v := undef) rfl (by kernel_rfl) (by kernel_rfl) (by kernel_rfl) (fun _ _ _ h => h) (Or.inr ⟨by rfl, rfl⟩) (by assumption) ?_
    try simp only [Act.put, List.setIfInBounds_toArray, List.set_cons_zero, List.set_cons_succ]
    refine wpAnyH_take (i := 17) (oi := ⟨some 23, _, _, _, _, _⟩) (v := undef) rfl (by kernel_rfl) (by kernel_rfl) (by kernel_rfl) (fun _ _ _ h => h) (Or.inr ⟨by rfl, rfl⟩) (by assumption) ?_
    try simp only [Act.put, List.setIfInBounds_toArray, List.set_cons_zero, List.set_cons_succ]
    refine wpAnyH_take (i := 18) (oi := ⟨some 24, _, _, _, _, _⟩) (v := undef) rfl (by kernel_rfl) (by kernel_rfl) (by kernel_rfl) (fun _ _ _ h => h) (Or.inr ⟨by rfl, rfl⟩) (by assumption) ?_
    try simp only [Act.put, List.setIfInBounds_toArray, List.set_cons_zero, List.set_cons_succ]
    refine wpAnyH_take (i := 19) (oi := ⟨some 25, _, _, _, _, _⟩) (v := undef) rfl (by kernel_rfl) (by kernel_rfl) (by kernel_rfl) (fun _ _ _ h => h) (Or.inr ⟨by rfl, rfl⟩) (by assumption) ?_
    try simp only [Act.put, List.setIfInBounds_toArray, List.set_cons_zero, List.set_cons_succ]
    refine wpAnyH_take (i := 20) (oi := ⟨some 26, _, _, _, _, _⟩) (v := undef) rfl (by kernel_rfl) (by kernel_rfl) (by kernel_rfl) (fun _ _ _ h => h) (Or.inr ⟨by rfl, rfl⟩) (by assumption) ?_
    try simp only [Act.put, List.setIfInBounds_toArray, List.set_cons_zero, List.set_cons_succ]
    refine wpAnyH_take (i := 21) (oi := ⟨some 27, _, _, _, _, _⟩) (v := .bool true) rfl (by kernel_rfl) (by kernel_rfl) (by kernel_rfl) (fun _ _ _ h => h) (Or.inl ⟨by rfl, by (intro w hSw; (try dsimp only at hSw); go_simp)⟩) (by assumption) ?_
    try simp only [Act.put, List.setIfInBounds_toArray, List.set_cons_zero, List.set_cons_succ]
    refine wpAnyH_done (by kernel_rfl) ?_ _
    all_goals go_wp2_with fail
    all_goals go_meet
    all_goals exact ⟨rfl, HFA.out.transN hS1⟩
  case rest =>
    obtain ⟨rfl, HF⟩ := hcut
    go_wp2_with fail
    go_ret2
    exact ⟨rfl, HF.out⟩

set_option maxRecDepth 100000 in
/-- Another length: no image. -/
theorem dec_image_len {w : World} {F : Nat → Prop} {b t : Nat} {p : Par} {M : Mat} (h : DecRep w F b p M t) (hr : rank M = p.n) (len : Int) {c : Nat} (hct : ∀ w, Calls Tryz.prog 29 #[.int .i64 len, .int .i64 p.sz] w fun e w' => e = .returned (.int .i64 c) ∧ w = w') (hc : c ≠ p.K) :
    Calls Tryz.prog 15 #[.pointer (some ⟨b, 0, none⟩), .int .i64 len] w fun e w' => e = .returned (.tuple #[.slice none 0 0, .bool false]) ∧ Fr NoF w w' := by
  have HD : Hid (∀ (w' : World), Fr NoF w w' → Calls Tryz.prog 12 #[.pointer (some ⟨b, 0, none⟩)] w' fun e w'' => e = .returned (.int .i64 0) ∧ Fr NoF w' w'') := fun w' hf => by
    have := dec_needs (h.frN hf)
    rw [hr, Nat.sub_self] at this
    exact this
  have hcd : decide (c = p.K) = false := decide_eq_false hc
  obtain ⟨bm, hm, hFb, c0, c1, c2, c3, c4, _⟩ := h.open
  clear h hm hr
  have hA := (Fr.refl NoF w).alloc (.cells #[.pointer (some ⟨b, 0, none⟩)] 32)
  have hx := (Blk.new w #[.pointer (some ⟨b, 0, none⟩)] 32).cell 0 rfl
  have HFA := Lib.hid hA
  replace c1 := hA.cellN c1
  replace c3 := hA.cellN c3
  clear hA
  go_enter Tryz.func15, Tryz.ntmps15
  go_wp2_with fail
  go_cut [27] (fun sv wx => sv = .bool true ∧ Hid (Fr NoF w wx))
  case first =>
    go_region_held3 (fun w' => Fr NoF (w.alloc (.cells #[.pointer (some ⟨b, 0, none⟩)] 32)) w' ∧ w'.cell? ⟨w.heap.size, 0, none⟩ = some (.pointer (some ⟨b, 0, none⟩)) ∧ w'.cell? ⟨b, 1, none⟩ = some (.int .i64 p.K) ∧ w'.cell? ⟨b, 3, none⟩ = some (.int .i64 p.sz))
      (first | exact ⟨(Fr.refl _ _).drewN _, hx, c1, c3⟩ | exact ⟨by assumption, by assumption, by assumption, by assumption⟩)
      (first | (go_at_call 12; refine (HD.out _ (HFA.out.transN (And.left (by assumption)))).mono ?_; rintro e w1 ⟨rfl, hf⟩; have hS1 := Fr.trans' (And.left (by assumption)) hf; have dx := hS1.cellN hx; have d1 := hS1.cellN c1; have d3 := hS1.cellN c3) | (go_at_call 29; refine (hct _).mono ?_; rintro e w2 ⟨rfl, rfl⟩))
    all_goals go_wp2_with fail
    all_goals go_meet
    all_goals exact ⟨by rw [show ((c : Int) != (p.K : Int)) = true from by rw [bne_iff_ne]; omega], HFA.out.transN hS1⟩
  case rest =>
    obtain ⟨rfl, HF⟩ := hcut
    go_wp2_with fail
    go_ret2
    exact ⟨rfl, HF.out⟩

/-- The head of a slice of slices. -/
theorem BsAt.take {F : Nat → Prop} {w : World} {p : Option Addr} {n c : Nat} {bs : List (List UInt8)} (h : BsAt F w (.slice p n c) bs) {m : Nat} (hm : m ≤ n) : BsAt F w (.slice p m c) (bs.take m) := by
  obtain ⟨vs, h1, h2, h3⟩ := h
  refine ⟨vs.take m, h1.take hm, by simp [h2], fun j u b hu hb => ?_⟩
  rcases Nat.lt_or_ge j m with hj | hj
  · rw [List.getElem?_take_of_lt hj] at hu hb
    exact h3 j u b hu hb
  · rw [List.getElem?_eq_none (by rw [List.length_take]; omega)] at hu
    simp at hu

theorem allPieces_take (p : Par) (image : List UInt8) : (allPieces p image).take p.K = splitL image p.sz p.K := by
  unfold allPieces piecesL
  rw [List.take_left' (splitL_length _ _ _)]
theorem count_le {len sz K : Nat} (h : countN len sz = K) (hK : 1 ≤ K) : len ≤ K * sz := by
  unfold countN at h
  split at h
  · rename_i hc
    have h1 := Nat.div_add_mod (len + sz - 1) sz
    have h2 := Nat.mod_lt (len + sz - 1) hc.2.2.1
    rw [h, Nat.mul_comm] at h1
    omega
  · omega

set_option maxRecDepth 100000 in
/-- What is done once: the image's pieces are worked out. -/
theorem image1_any {w : World} {p : Par} {FM : Nat → Prop} {bm t b x : Nat} {rs : List Row} (hm : MatRep w FM bm p.n p.sz (rs.map some)) (hFb : ∀ k, FM k → ¬ k = b)
    (hb : Blk w b (decCells p bm t 0 1 (.slice none 0 0)) 75) (hx : w.cell? ⟨x, 0, none⟩ = some (.pointer (some ⟨b, 0, none⟩))) :
    Calls Tryz.prog 31 #[.pointer (some ⟨x, 0, none⟩)] w fun e w' => e = .returned (.tuple #[]) ∧ Fr (· = b) w w' ∧ ∃ vl, Blk w' b (decCells p bm t 0 1 vl) 75 ∧ BsOwn w' w.heap.size vl (rs.map Prod.snd) := by
  have HB := Lib.hid hb
  have HM := Lib.hid hm
  have c4 : w.cell? ⟨b, 4, none⟩ = some (.pointer (some ⟨bm, 0, none⟩)) := hb.cell 4 rfl
  have c9 : w.cell? ⟨b, 9, none⟩ = some (.slice none 0 0) := hb.cell 9 rfl
  have z9 := hb.frozen 9
  clear hb hm
  go_enter Tryz.func31, Tryz.ntmps31
  go_wp2_with fail
  go_region_held3 (fun w' => Fr (fun k => k = b) w w' ∧ w'.cell? ⟨x, 0, none⟩ = some (.pointer (some ⟨b, 0, none⟩)) ∧ w'.cell? ⟨b, 4, none⟩ = some (.pointer (some ⟨bm, 0, none⟩)))
    (first | exact ⟨(Fr.refl _ _).drewN _, hx, c4⟩ | exact ⟨by assumption, by assumption, by assumption⟩ | exact ⟨Fr.setCell hS2 (fun _ => rfl) _, (World.cell?_setCell_other _ ⟨b, 9, none⟩ ⟨x, 0, none⟩ _ (by simp)).trans dx, (World.cell?_setCell_other _ ⟨b, 9, none⟩ ⟨b, 4, none⟩ _ (by simp)).trans d4⟩)
    (first | (go_at_call 32; refine (mat_solve (HM.out.fr (And.left (by assumption)) hFb)).mono ?_; rintro e w2 ⟨v', rfl, hf2, ho2⟩; have hsb : w.heap.size ≤ _ := Fr.size (And.left (a := Fr (fun k => k = b) w _) (by assumption)); have hS2 : Fr (fun k => k = b) w w2 := Fr.transN (And.left (by assumption)) hf2; have dx : w2.cell? ⟨x, 0, none⟩ = some (.pointer (some ⟨b, 0, none⟩)) := hf2.cellN (And.left (And.right (a := Fr (fun k => k = b) w _) (by assumption))); have d4 : w2.cell? ⟨b, 4, none⟩ = some (.pointer (some ⟨bm, 0, none⟩)) := hf2.cellN (And.right (And.right (a := Fr (fun k => k = b) w _) (by assumption))); have hB2 := Lib.hid (HB.out.frN (Fr.trans' ((Fr.refl NoF w).drewN _) hf2)); have e9 := hB2.out.cell 9 rfl; have y9 := hB2.out.frozen 9; obtain ⟨pv2, nv2, cv2, rfl⟩ := ho2.shape; have HO2 := Lib.hid ho2; clear ho2))
  all_goals go_wp2_with fail
  go_end0
  have hlt := HB.out.lt
  refine ⟨rfl, hS2.setCell (fun _ => rfl) _, .slice pv2 nv2 cv2, hB2.out.setCell 9 _, ?_⟩
  exact (HO2.out.fr (F := fun k => k = b) ((Fr.refl (fun k => k = b) w2).setCell (p := ⟨b, 9, none⟩) (fun _ => rfl) _) (fun k e => by have e : k = b := e; omega)).base hsb

/-- Do, of a decoder's. -/
theorem dec_once {w : World} {p : Par} {FM : Nat → Prop} {bm t b x : Nat} {rs : List Row} (hm : MatRep w FM bm p.n p.sz (rs.map some)) (hFb : ∀ k, FM k → ¬ k = b)
    (hb : Blk w b (decCells p bm t 0 0 (.slice none 0 0)) 75) (hx : w.cell? ⟨x, 0, none⟩ = some (.pointer (some ⟨b, 0, none⟩))) :
    Calls Tryz.prog 30 #[.pointer (some ⟨b, 6, none⟩), .func (.func 31) #[] #[.pointer (some ⟨x, 0, none⟩)]] w fun e w' => e = .returned (.tuple #[]) ∧
      (Fr (fun k => k = b) w w' ∧ ∃ vl, Blk w' b (decCells p bm t 1 0 vl) 75 ∧ BsOwn w' w.heap.size vl (rs.map Prod.snd)) := by
  refine once_do (R := fun w' => Fr (fun k => k = b) w w' ∧ ∃ vl, Blk w' b (decCells p bm t 1 0 vl) 75 ∧ BsOwn w' w.heap.size vl (rs.map Prod.snd)) (o := 6) (hb.cell 6 rfl) (hb.cell 7 rfl) (hb.frozen 7) (fun w => Go.MuLone.run_callFunc_enter Tryz.func31 (by kernel_rfl) rfl _ w) ?_
  unfold OnceFn
  have hF6 : Fr (fun k => k = b) w (w.setCell ⟨b, 6 + 1, none⟩ (.int .i32 1)) := (Fr.refl (fun k => k = b) _).setCell (p := ⟨b, 6 + 1, none⟩) (fun _ => rfl) _
  have hlt := hb.lt
  refine (image1_any (hm.fr hF6 hFb) (b := b) (x := x) hFb (hb.setCell 7 (.int .i32 1)) ?_).mono ?_
  · exact (World.cell?_setCell_other _ ⟨b, 7, none⟩ ⟨x, 0, none⟩ _ (by simp)).trans hx
  · rintro e w' ⟨rfl, hf, vl', hb', ho'⟩
    have hfz : Fr (fun k => k = b) w' (((w'.setCell ⟨b, 6, none⟩ (.int .u32 1)).drew).setCell ⟨b, 6 + 1, none⟩ (.int .i32 0)) := ((((Fr.refl (fun k => k = b) w').setCell (p := ⟨b, 6, none⟩) (fun _ => rfl) _).drew).setCell (p := ⟨b, 6 + 1, none⟩) (fun _ => rfl) _)
    have hB : (w.setCell ⟨b, 6 + 1, none⟩ (.int .i32 1)).heap.size = w.heap.size := by simp [World.setCell]
    rw [hB] at ho'
    exact ⟨rfl, hb'.cell 6 rfl, hb'.cell 7 rfl, hb'.frozen 6, hb'.frozen 7, (hF6.trans' hf).trans' hfz, vl', ((hb'.setCell 6 (.int .u32 1)).drew).setCell 7 (.int .i32 0), ho'.fr hfz fun k e => by have e : k = b := e; omega⟩
end Go.Proofs.YtamdmkjejpkbiaaGreatDoor
