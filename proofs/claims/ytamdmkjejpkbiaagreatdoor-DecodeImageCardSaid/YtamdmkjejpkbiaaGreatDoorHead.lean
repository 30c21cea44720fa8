/- The head of an image: package code. -/
import Derived.Test.YtamdmkjejpkbiaaGreatDoorPiec
import Derived.Test.YtamdmkjejpkbiaaGreatDoorSync
namespace Go.Proofs.YtamdmkjejpkbiaaGreatDoor
open Go Go.RowKit Go.Proofs

theorem SlAt.mono2 {F G : Nat → Prop} {w : World} {v : Value} {xs : List Value} (h : SlAt F w v xs) (hF : ∀ k, F k → k < w.heap.size → G k) : SlAt G w v xs := by
  obtain ⟨p, cap, rfl, h0, h⟩ := h
  refine ⟨p, cap, rfl, h0, fun hne => ?_⟩
  obtain ⟨b, o, rfl, hb⟩ := h hne
  exact ⟨b, o, rfl, hF b hb.1 hb.2.1, hb.2⟩
theorem BsAt.mono2 {F G : Nat → Prop} {w : World} {v : Value} {bs : List (List UInt8)} (h : BsAt F w v bs) (hF : ∀ k, F k → k < w.heap.size → G k) : BsAt G w v bs := by
  obtain ⟨vs, h1, h2, h3⟩ := h
  exact ⟨vs, h1.mono2 hF, h2, fun j u b hu hb => (h3 j u b hu hb).mono2 hF⟩

theorem BsOwn.shape {w : World} {B : Nat} {v : Value} {bs : List (List UInt8)} (h : BsOwn w B v bs) : ∃ p n c, v = .slice p n c := by
  obtain ⟨vs, h1, _⟩ := h
  obtain ⟨p, c, rfl⟩ := ownsRow_slice h1
  exact ⟨_, _, _, rfl⟩

theorem ownsRow_fr {w w' : World} {base : Nat} {e : TypeId} {size : Nat} {v : Value} {n : Nat} {xs : List Value} {F : Nat → Prop} (h : w.ownsRow base e size v n xs) (hf : Fr F w w') (hF : ∀ k, F k → k < base) : w'.ownsRow base e size v n xs := by
  obtain ⟨h1, h2⟩ := h
  refine ⟨h1, ?_⟩
  rcases h2 with h2 | ⟨g, cap, cur, hv, hb, hg, r⟩
  · exact .inl h2
  · exact .inr ⟨g, cap, cur, hv, hb, Blk.fr (c := cur) (T := e) hg hf (fun f => absurd (hF g f) (Nat.not_lt.2 hb)), r⟩
theorem BsOwn.fr {w w' : World} {B : Nat} {v : Value} {bs : List (List UInt8)} {F : Nat → Prop} (h : BsOwn w B v bs) (hf : Fr F w w') (hF : ∀ k, F k → k < B) : BsOwn w' B v bs := by
  obtain ⟨vs, h1, h2, h3⟩ := h
  exact ⟨vs, ownsRow_fr h1 hf hF, h2, fun j u b hu hb => ownsRow_fr (h3 j u b hu hb) hf hF⟩

/-- A head of an image: at block b, within F. -/
def HeadRep (w : World) (F : Nat → Prop) (b : Nat) (p : Par) (image : List UInt8) : Prop :=
  ∃ (vi vl : Value) (dn : Bool), Blk w b #[.int .u32 p.ses, .int .i64 p.K, .int .i64 p.P, .int .i64 p.sz, vi, .int .u32 (if dn then 1 else 0), .int .i32 0, .int .u32 0, vl] 85 ∧
    F b ∧ InF F w ∧ SlAt (fun k => F k ∧ k ≠ b) w vi (bytesV image) ∧ (dn = true → BsAt (fun k => F k ∧ k ≠ b) w vl (allPieces p image)) ∧ (dn = false → vl = .slice none 0 0) ∧
    p.Ok ∧ 1 ≤ image.length ∧ image.length ≤ 512 ∧ countN image.length p.sz = p.K

theorem HeadRep.ok {w : World} {F : Nat → Prop} {b : Nat} {p : Par} {image : List UInt8} (h : HeadRep w F b p image) : p.Ok := by obtain ⟨_, _, _, _, _, _, _, _, _, h, _⟩ := h; exact h
theorem HeadRep.inF {w : World} {F : Nat → Prop} {b : Nat} {p : Par} {image : List UInt8} (h : HeadRep w F b p image) : InF F w := by obtain ⟨_, _, _, _, _, h, _⟩ := h; exact h
theorem HeadRep.fr {w w' : World} {F G : Nat → Prop} {b : Nat} {p : Par} {image : List UInt8} (h : HeadRep w F b p image) (hf : Fr G w w') (ha : Apart F G) : HeadRep w' F b p image := by
  obtain ⟨vi, vl, dn, h1, h2, h3, h4, h5, h6⟩ := h
  exact ⟨vi, vl, dn, h1.fr hf (ha _ h2), h2, h3.le hf.size, h4.fr hf fun k hk => ha k hk.1, fun e => (h5 e).fr hf fun k hk => ha k hk.1, h6⟩

set_option maxRecDepth 100000 in
/-- A new head. -/
theorem code_new {w : World} {p : Par} (h : p.Ok) {F : Nat → Prop} {v : Value} {image : List UInt8} (hs : SlAt F w v (bytesV image)) (h1 : 1 ≤ image.length) (h2 : image.length ≤ 512) (hc : countN image.length p.sz = p.K) (hg : gl ≤ w.heap.size) :
    Calls Tryz.prog 17 #[.agg p.cells, v] w fun e w' => ∃ b, e = .returned (.pointer (some ⟨b, 0, none⟩)) ∧ Fr NoF w w' ∧ HeadRep w' (upF NoF w w') b p image := by
  have hm := fun w => may_ok (w := w) h
  have hbk := Blk.new w p.cells 24
  obtain ⟨pl, cap, e⟩ := hs.shape
  rw [bytesV_length] at e
  subst e
  have HOK := Lib.hid h
  obtain ⟨_, k1, k2, p2, z1, z2⟩ := h
  have hct := fun w => count_in (w := w) image.length p.sz h1 h2 z1 z2
  rw [hc] at hct
  have HB := Lib.hid hbk
  have HS := Lib.hid hs
  have HC := Lib.hid hc
  clear hs hbk hc
  unfold Par.cells at *
  have c0 := HB.out.cell 0 rfl
  have c1 := HB.out.cell 1 rfl
  have c2 := HB.out.cell 2 rfl
  have c3 := HB.out.cell 3 rfl
  go_enter Tryz.func17, Tryz.ntmps17
  go_wp2_with fail
  go_cut [17] (fun s wx => s = .bool false ∧ Hid (Fr NoF w wx) ∧ Hid (Blk wx w.heap.size #[.int .u32 p.ses, .int .i64 p.K, .int .i64 p.P, .int .i64 p.sz] 24))
  case first =>
    go_region_held3 (fun w' => Fr NoF (w.alloc (.cells #[.int .u32 p.ses, .int .i64 p.K, .int .i64 p.P, .int .i64 p.sz] 24)) w' ∧ w'.cell? ⟨w.heap.size, 0, none⟩ = some (.int .u32 p.ses) ∧ w'.cell? ⟨w.heap.size, 1, none⟩ = some (.int .i64 p.K) ∧ w'.cell? ⟨w.heap.size, 2, none⟩ = some (.int .i64 p.P) ∧ w'.cell? ⟨w.heap.size, 3, none⟩ = some (.int .i64 p.sz))
      (first | exact ⟨(Fr.refl _ _).drewN _, c0, c1, c2, c3⟩ | exact ⟨by assumption, by assumption, by assumption, by assumption, by assumption⟩ | exact ⟨Fr.alloc (And.left (by assumption)) _, by go_keep⟩ | exact ⟨Fr.alloc hS1 _, by go_keep⟩)
      (first | (go_at_call 25; refine (hm _).mono ?_; rintro e w1 ⟨rfl, hf⟩; have hS1 := Fr.trans' (And.left (by assumption)) hf; have d0 := hS1.cellN c0; have d1 := hS1.cellN c1; have d2 := hS1.cellN c2; have d3 := hS1.cellN c3) | (go_at_call 29; refine (hct _).mono ?_; rintro e w1 ⟨rfl, rfl⟩))
    all_goals go_wp2_with fail
    all_goals go_meet
    all_goals exact ⟨rfl, ((Fr.refl NoF w).alloc _).trans' hS1, HB.out.frN hS1⟩
  case rest =>
    clear c0 c1 c2 c3
    obtain ⟨rfl, HF, HBC⟩ := hcut
    have c0 : wc.cell? ⟨w.heap.size, 0, none⟩ = some (.int .u32 p.ses) := HBC.out.cell 0 rfl
    have c1 : wc.cell? ⟨w.heap.size, 1, none⟩ = some (.int .i64 p.K) := HBC.out.cell 1 rfl
    have c2 : wc.cell? ⟨w.heap.size, 2, none⟩ = some (.int .i64 p.P) := HBC.out.cell 2 rfl
    have c3 : wc.cell? ⟨w.heap.size, 3, none⟩ = some (.int .i64 p.sz) := HBC.out.cell 3 rfl
    have HSC : Hid (SlAt F wc _ _) := HS.out.frN HF.out
    go_wp2_with fail
    go_region_held3 (fun w' => Fr NoF wc w' ∧ w'.cell? ⟨w.heap.size, 0, none⟩ = some (.int .u32 p.ses) ∧ w'.cell? ⟨w.heap.size, 1, none⟩ = some (.int .i64 p.K) ∧ w'.cell? ⟨w.heap.size, 2, none⟩ = some (.int .i64 p.P) ∧ w'.cell? ⟨w.heap.size, 3, none⟩ = some (.int .i64 p.sz))
      (first | exact ⟨(Fr.refl _ _).drewN _, c0, c1, c2, c3⟩ | exact ⟨(Fr.refl _ _).drew, c0, c1, c2, c3⟩ | exact ⟨by assumption, by assumption, by assumption, by assumption, by assumption⟩ | exact ⟨Fr.alloc (And.left (by assumption)) _, by go_keep⟩ | exact ⟨Fr.alloc hS1 _, by go_keep⟩)
      (first | (go_at_call 35; refine (clone_u8 (HSC.out.frN (And.left (by assumption))) (bytesV_one _) (by rw [bytesV_length]; omega)).mono ?_; rintro e w1 ⟨v', rfl, hf, ho⟩; have hS1 := Fr.trans' (And.left (by assumption)) hf; have d0 := hS1.cellN c0; have d1 := hS1.cellN c1; have d2 := hS1.cellN c2; have d3 := hS1.cellN c3; obtain ⟨pv, cv, rfl⟩ := ownsRow_slice ho; have HO := Lib.hid ho; clear ho))
    all_goals go_wp2_with fail
    go_ret
    simp only [bytesV_length] at HO ⊢
    have hs1 : w.heap.size ≤ wc.heap.size := HF.out.size
    have hs2 : wc.heap.size ≤ w1.heap.size := hS1.size
    refine ⟨w1.heap.size, rfl, HF.out.trans' (hS1.alloc _), .slice pv image.length cv, .slice none 0 0, false, Blk.new _ _ _, ?_, ?_, ?_, by simp, fun _ => rfl, HOK.out, h1, h2, HC.out⟩
    · exact .inr ⟨by omega, by simp⟩
    · intro k hk
      rcases hk with hk | hk
      · exact hk.elim
      · exact ⟨Nat.le_trans hg hk.1, hk.2⟩
    · have hsl : SlAt (fun k => wc.heap.size ≤ k ∧ k < w1.heap.size) w1 (.slice pv image.length cv) (bytesV image) := (SlAt.owned HO.out).mono2 fun k hk hl => ⟨hk, hl⟩
      refine (hsl.frN ((Fr.refl _ _).alloc _)).mono2 fun k hk hl => ⟨.inr ⟨by omega, hl⟩, by omega⟩

/-- The cells of a head. -/
def headCells (p : Par) (vi : Value) (d st : Nat) (vl : Value) : Array Value := #[.int .u32 p.ses, .int .i64 p.K, .int .i64 p.P, .int .i64 p.sz, vi, .int .u32 d, .int .i32 st, .int .u32 0, vl]

set_option maxRecDepth 100000 in
/-- What is done once: all pieces are worked out. -/
theorem pieces1_any {w : World} {p : Par} (h : p.Ok) {F : Nat → Prop} {vi : Value} {image : List UInt8} (hs : SlAt F w vi (bytesV image)) (h1 : 1 ≤ image.length) (h2 : image.length ≤ 512) (hc : countN image.length p.sz = p.K)
    {b x : Nat} (hFb : ∀ k, F k → ¬ k = b) (hb : Blk w b (headCells p vi 0 1 (.slice none 0 0)) 85) (hx : w.cell? ⟨x, 0, none⟩ = some (.pointer (some ⟨b, 0, none⟩))) :
    Calls Tryz.prog 54 #[.pointer (some ⟨x, 0, none⟩)] w fun e w' => e = .returned (.tuple #[]) ∧ Fr (· = b) w w' ∧ ∃ vl, Blk w' b (headCells p vi 0 1 vl) 85 ∧ BsOwn w' w.heap.size vl (allPieces p image) := by
  have HS := Lib.hid hs
  have HOK := Lib.hid h
  have HC := Lib.hid hc
  have HB := Lib.hid hb
  obtain ⟨pl, cap, e⟩ := hs.shape
  rw [bytesV_length] at e
  subst e
  obtain ⟨_, k1, k2, p2, z1, z2⟩ := h
  have c0 : w.cell? ⟨b, 0, none⟩ = some (.int .u32 p.ses) := hb.cell 0 rfl
  have c1 : w.cell? ⟨b, 1, none⟩ = some (.int .i64 p.K) := hb.cell 1 rfl
  have c2 := hb.cell 2 rfl
  have c3 := hb.cell 3 rfl
  have c4 := hb.cell 4 rfl
  have z8 := hb.frozen 8
  have c8 := hb.cell 8 rfl
  have HK : Hid (∀ w v F, BsAt F w v (splitL image p.sz (countN image.length p.sz)) → Calls Tryz.prog 55 #[.agg p.cells, v] w fun e w' => ∃ v', e = .returned v' ∧ Fr NoF w w' ∧ BsOwn w' w.heap.size v' (piecesL p (splitL image p.sz (countN image.length p.sz)))) :=
    fun w v F hb => precode_pieces HOK.out hb (by rw [splitL_length, hc]) fun b hb => mem_splitL hb
  clear hs hc hb
  go_enter Tryz.func54, Tryz.ntmps54
  go_wp2_with fail
  go_region_held3 (fun w' => Fr (fun k => k = b) w w' ∧ w'.cell? ⟨x, 0, none⟩ = some (.pointer (some ⟨b, 0, none⟩)) ∧ w'.cell? ⟨b, 0, none⟩ = some (.int .u32 p.ses) ∧ w'.cell? ⟨b, 1, none⟩ = some (.int .i64 p.K) ∧ w'.cell? ⟨b, 2, none⟩ = some (.int .i64 p.P) ∧ w'.cell? ⟨b, 3, none⟩ = some (.int .i64 p.sz) ∧ w'.cell? ⟨b, 4, none⟩ = some (.slice pl image.length cap) ∧ Hid (∃ v, Blk w' b (headCells p (.slice pl image.length cap) 0 1 v) 85))
      (first | exact ⟨(Fr.refl _ _).drewN _, hx, c0, c1, c2, c3, c4, _, HB.out⟩ | exact ⟨(Fr.refl _ _).drew, hx, c0, c1, c2, c3, c4, _, HB.out⟩ | exact ⟨by assumption, by assumption, by assumption, by assumption, by assumption, by assumption, by assumption, by assumption⟩ | exact ⟨Fr.setCell hS2 (fun _ => rfl) _, (World.cell?_setCell_other _ ⟨b, 8, none⟩ ⟨x, 0, none⟩ _ (by simp)).trans ex, (World.cell?_setCell_other _ ⟨b, 8, none⟩ ⟨b, 0, none⟩ _ (by simp)).trans e0, (World.cell?_setCell_other _ ⟨b, 8, none⟩ ⟨b, 1, none⟩ _ (by simp)).trans e1, (World.cell?_setCell_other _ ⟨b, 8, none⟩ ⟨b, 2, none⟩ _ (by simp)).trans e2, (World.cell?_setCell_other _ ⟨b, 8, none⟩ ⟨b, 3, none⟩ _ (by simp)).trans e3, (World.cell?_setCell_other _ ⟨b, 8, none⟩ ⟨b, 4, none⟩ _ (by simp)).trans e4, _, hB2.out.setCell 8 _⟩)
      (first | (go_at_call 56; refine (split_any (HS.out.fr (And.left (by assumption)) hFb) p.sz h1 h2 z1 z2).mono ?_; rintro e w1 ⟨v', rfl, hf, ho⟩; have hS1 : Fr (fun k => k = b) w w1 := Fr.transN (And.left (by assumption)) hf; have dx := hf.cellN (And.left (And.right (a := Fr (fun k => k = b) w _) (by assumption))); have d0 := hf.cellN (And.left (And.right (And.right (a := Fr (fun k => k = b) w _) (by assumption)))); have d1 := hf.cellN (And.left (And.right (And.right (And.right (a := Fr (fun k => k = b) w _) (by assumption))))); have d2 := hf.cellN (And.left (And.right (And.right (And.right (And.right (a := Fr (fun k => k = b) w _) (by assumption)))))); have d3 := hf.cellN (And.left (And.right (And.right (And.right (And.right (And.right (a := Fr (fun k => k = b) w _) (by assumption))))))); have d4 := hf.cellN (And.left (And.right (And.right (And.right (And.right (And.right (And.right (a := Fr (fun k => k = b) w _) (by assumption)))))))); obtain ⟨v0, hb0⟩ := Hid.out (And.right (And.right (And.right (And.right (And.right (And.right (And.right (a := Fr (fun k => k = b) w _) (by assumption)))))))); have hB1 := Lib.hid (hb0.frN hf); have hE1 : Hid (∃ v, Blk w1 b (headCells p (.slice pl image.length cap) 0 1 v) 85) := ⟨_, hB1.out⟩; clear hb0; obtain ⟨pv, nv, cv, rfl⟩ := ho.shape; have HO := Lib.hid ho; clear ho hf) | (go_at_call 55; refine (HK.out _ _ _ HO.out.at).mono ?_; rintro e w2 ⟨v', rfl, hf2, ho2⟩; have hS2 : Fr (fun k => k = b) w w2 := Fr.transN hS1 hf2; have ex := hf2.cellN dx; have e0 := hf2.cellN d0; have e1 := hf2.cellN d1; have e2 := hf2.cellN d2; have e3 := hf2.cellN d3; have e4 := hf2.cellN d4; have hB2 := Lib.hid (hB1.out.frN hf2); have hE2 : Hid (∃ v, Blk w2 b (headCells p (.slice pl image.length cap) 0 1 v) 85) := ⟨_, hB2.out⟩; have e8 := hB2.out.cell 8 rfl; have y8 := hB2.out.frozen 8; obtain ⟨pv2, nv2, cv2, rfl⟩ := ho2.shape; have HO2 := Lib.hid ho2; clear ho2))
  all_goals go_wp2_with fail
  go_end0
  refine ⟨rfl, hS2.setCell (fun _ => rfl) _, .slice pv2 nv2 cv2, hB2.out.setCell 8 _, ?_⟩
  have hp : allPieces p image = piecesL p (splitL image p.sz (countN image.length p.sz)) := by rw [HC.out]; rfl
  rw [hp]
  have hlt : b < w.heap.size := HB.out.lt
  have hsz := hS1.size
  exact (HO2.out.fr (F := fun k => k = b) ((Fr.refl (fun k => k = b) w2).setCell (p := ⟨b, 8, none⟩) (fun _ => rfl) _) (fun k e => by have e : k = b := e; omega)).base hsz

/-- Do, of a head's. -/
theorem head_once {w : World} {p : Par} (h : p.Ok) {F : Nat → Prop} {vi : Value} {image : List UInt8} (hs : SlAt F w vi (bytesV image)) (h1 : 1 ≤ image.length) (h2 : image.length ≤ 512) (hc : countN image.length p.sz = p.K)
    {b x : Nat} (hFb : ∀ k, F k → ¬ k = b) (hb : Blk w b (headCells p vi 0 0 (.slice none 0 0)) 85) (hx : w.cell? ⟨x, 0, none⟩ = some (.pointer (some ⟨b, 0, none⟩))) :
    Calls Tryz.prog 30 #[.pointer (some ⟨b, 5, none⟩), .func (.func 54) #[] #[.pointer (some ⟨x, 0, none⟩)]] w fun e w' => e = .returned (.tuple #[]) ∧
      (Fr (fun k => k = b) w w' ∧ ∃ vl, Blk w' b (headCells p vi 1 0 vl) 85 ∧ BsOwn w' w.heap.size vl (allPieces p image)) := by
  refine once_do (R := fun w' => Fr (fun k => k = b) w w' ∧ ∃ vl, Blk w' b (headCells p vi 1 0 vl) 85 ∧ BsOwn w' w.heap.size vl (allPieces p image)) (o := 5) (hb.cell 5 rfl) (hb.cell 6 rfl) (hb.frozen 6) (fun w => Go.MuLone.run_callFunc_enter Tryz.func54 (by kernel_rfl) rfl _ w) ?_
  unfold OnceFn
  have hF6 : Fr (fun k => k = b) w (w.setCell ⟨b, 5 + 1, none⟩ (.int .i32 1)) := (Fr.refl (fun k => k = b) _).setCell (p := ⟨b, 5 + 1, none⟩) (fun _ => rfl) _
  have hlt := hb.lt
  refine (pieces1_any h (hs.fr hF6 hFb) h1 h2 hc (b := b) (x := x) hFb (hb.setCell 6 (.int .i32 1)) ?_).mono ?_
  · exact (World.cell?_setCell_other _ ⟨b, 6, none⟩ ⟨x, 0, none⟩ _ (by simp)).trans hx
  · rintro e w' ⟨rfl, hf, vl', hb', ho'⟩
    have hfz : Fr (fun k => k = b) w' (((w'.setCell ⟨b, 5, none⟩ (.int .u32 1)).drew).setCell ⟨b, 5 + 1, none⟩ (.int .i32 0)) := ((((Fr.refl (fun k => k = b) w').setCell (p := ⟨b, 5, none⟩) (fun _ => rfl) _).drew).setCell (p := ⟨b, 5 + 1, none⟩) (fun _ => rfl) _)
    have hB : (w.setCell ⟨b, 5 + 1, none⟩ (.int .i32 1)).heap.size = w.heap.size := by simp [World.setCell]
    rw [hB] at ho'
    exact ⟨rfl, hb'.cell 5 rfl, hb'.cell 6 rfl, hb'.frozen 5, hb'.frozen 6, (hF6.trans' hf).trans' hfz, vl', ((hb'.setCell 5 (.int .u32 1)).drew).setCell 6 (.int .i32 0), ho'.fr hfz fun k e => by have e : k = b := e; omega⟩

set_option maxRecDepth 100000 in
/-- All pieces of a head's, worked out once. -/
theorem head_pieces {w : World} {F : Nat → Prop} {b : Nat} {p : Par} {image : List UInt8} (h : HeadRep w F b p image) (hg : gl ≤ w.heap.size) :
    Calls Tryz.prog 36 #[.pointer (some ⟨b, 0, none⟩)] w fun e w' => ∃ vl, e = .returned vl ∧ Fr (fun k => k = b) w w' ∧ HeadRep w' (upF F w w') b p image ∧ BsAt (fun k => upF F w w' k ∧ k ≠ b) w' vl (allPieces p image) := by
  obtain ⟨vi, vl, dn, h1, h2, h3, h4, h5, h6, h7, h8, h9, h10⟩ := h
  have hmf : ∀ (fn : Fn) (first cap : Array Value) (w : World), (Instr.makeFunc fn first cap).run Tryz.prog w = .ok (.func fn first cap) w := fun _ _ _ _ => rfl
  have hbl := h1.lt
  cases dn with
  | true =>
    have hb5 : (w.alloc (.cells #[.pointer (some ⟨b, 0, none⟩)] 44)).cell? ⟨b, 5, none⟩ = some (.int .u32 1) := (h1.alloc _).cell 5 rfl
    have c8 := (h1.alloc (.cells #[.pointer (some ⟨b, 0, none⟩)] 44)).cell 8 rfl
    have hF := (Fr.refl (fun k => k = b) w).alloc (.cells #[.pointer (some ⟨b, 0, none⟩)] 44)
    have hNF := (Fr.refl NoF w).alloc (.cells #[.pointer (some ⟨b, 0, none⟩)] 44)
    have H1 := Lib.hid h1
    have H5 := Lib.hid (h5 rfl)
    have H4 := Lib.hid h4
    have HF := Lib.hid hF
    have HNF := Lib.hid hNF
    clear h5 h6 h1 h4 hF hNF
    go_enter Tryz.func36, Tryz.ntmps36
    go_wp2_with fail
    refine (once_done hb5).mono ?_
    rintro e w1 ⟨rfl, rfl⟩
    go_wp2_with fail
    go_ret
    have hup : InF (upF F w (w.alloc (.cells #[.pointer (some ⟨b, 0, none⟩)] 44))) (w.alloc (.cells #[.pointer (some ⟨b, 0, none⟩)] 44)) := h3.up hg HF.out.size
    have hbs : BsAt (fun k => upF F w (w.alloc (.cells #[.pointer (some ⟨b, 0, none⟩)] 44)) k ∧ k ≠ b) (w.alloc (.cells #[.pointer (some ⟨b, 0, none⟩)] 44)) vl (allPieces p image) := (H5.out.frN HNF.out).mono fun k hk => ⟨.inl hk.1, hk.2⟩
    exact ⟨vl, rfl, HF.out, ⟨vi, vl, true, H1.out.alloc _, .inl h2, hup, (H4.out.frN HNF.out).mono fun k hk => ⟨.inl hk.1, hk.2⟩, fun _ => hbs, by simp, h7, h8, h9, h10⟩, hbs⟩
  | false =>
    obtain rfl := h6 rfl
    have HF := Lib.hid ((Fr.refl (fun k => k = b) w).alloc (.cells #[.pointer (some ⟨b, 0, none⟩)] 44))
    have HNF := Lib.hid ((Fr.refl NoF w).alloc (.cells #[.pointer (some ⟨b, 0, none⟩)] 44))
    have H1 : Hid (Blk (w.alloc (.cells #[.pointer (some ⟨b, 0, none⟩)] 44)) b (headCells p vi 0 0 (.slice none 0 0)) 85) := h1.alloc _
    have H4 := Lib.hid h4
    have hx := (Blk.new w #[.pointer (some ⟨b, 0, none⟩)] 44).cell 0 rfl
    have hdo := Lib.hid (head_once h7 (H4.out.frN HNF.out) h8 h9 h10 (fun k hk => hk.2) H1.out hx)
    clear hx
    have hmono := Lib.hid h3
    clear h1 h4 h5 h6 h3
    have hx := (Blk.new w #[.pointer (some ⟨b, 0, none⟩)] 44).cell 0 rfl
    go_enter Tryz.func36, Tryz.ntmps36
    go_wp2_with fail
    refine hdo.out.mono ?_
    rintro e w1 ⟨rfl, hf, vl, hb, hbo⟩
    have hbs : BsAt (fun k => upF F w w1 k ∧ k ≠ b) w1 vl (allPieces p image) := hbo.at.mono2 fun k hk hl => by
      have hk : (w.alloc (.cells #[.pointer (some ⟨b, 0, none⟩)] 44)).heap.size ≤ k := hk
      rw [World.size_alloc] at hk
      exact ⟨.inr ⟨by omega, hl⟩, by omega⟩
    have HBS := Lib.hid hbs
    clear hbo
    have HB := Lib.hid hb
    have HF1 : Hid (Fr (fun k => k = b) w w1) := HF.out.trans' hf
    have d8 := hb.cell 8 rfl
    have dx := hf.cell hx (fun e => by have e : w.heap.size = b := e; omega)
    have hc : Hid (SlAt (fun k => F k ∧ k ≠ b) w1 vi (bytesV image)) := H4.out.fr HF1.out fun k hk => hk.2
    clear hbs hb hf hdo hx
    go_wp2_with fail
    go_ret
    exact ⟨vl, rfl, HF1.out, ⟨vi, vl, true, HB.out, .inl h2, hmono.out.up hg HF1.out.size, hc.out.mono fun k hk => ⟨.inl hk.1, hk.2⟩, fun _ => HBS.out, by simp, h7, h8, h9, h10⟩, HBS.out⟩
end Go.Proofs.YtamdmkjejpkbiaaGreatDoor
