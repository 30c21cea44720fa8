/- A decoder: package decode. -/
import Derived.Test.YtamdmkjejpkbiaaGreatDoorSymb
import Derived.Test.YtamdmkjejpkbiaaGreatDoorDecP
namespace Go.Proofs.YtamdmkjejpkbiaaGreatDoor
open Go Go.RowKit Go.Proofs

/-- The cells of a decoder. -/
def decCells (p : Par) (bm t d st : Nat) (vl : Value) : Array Value := #[.int .u32 p.ses, .int .i64 p.K, .int .i64 p.P, .int .i64 p.sz, .pointer (some ⟨bm, 0, none⟩), .int .i64 t, .int .u32 d, .int .i32 st, .int .u32 0, vl]

/-- A decoder at block b, within F: its matrix, how many symbols were taken. -/
def DecRep (w : World) (F : Nat → Prop) (b : Nat) (p : Par) (M : Mat) (t : Nat) : Prop :=
  ∃ (bm : Nat) (vl : Value) (dn : Bool), Blk w b (decCells p bm t (if dn then 1 else 0) 0 vl) 75 ∧ F b ∧ InF F w ∧ MatRep w (fun k => F k ∧ k ≠ b) bm p.n p.sz M ∧
    (dn = true → ∃ rs : List Row, M = rs.map some ∧ BsAt (fun k => F k ∧ k ≠ b) w vl (rs.map Prod.snd)) ∧ (dn = false → vl = .slice none 0 0) ∧ p.Ok ∧ Inv p.n M ∧ t + p.P = rank M

section
variable {w w' : World} {F G : Nat → Prop} {b t : Nat} {p : Par} {M : Mat}
theorem DecRep.ok (h : DecRep w F b p M t) : p.Ok := by obtain ⟨_, _, _, _, _, _, _, _, _, h, _⟩ := h; exact h
theorem DecRep.inv (h : DecRep w F b p M t) : Inv p.n M := by obtain ⟨_, _, _, _, _, _, _, _, _, _, h, _⟩ := h; exact h
theorem DecRep.tk (h : DecRep w F b p M t) : t + p.P = rank M := by obtain ⟨_, _, _, _, _, _, _, _, _, _, _, h⟩ := h; exact h
theorem DecRep.inF (h : DecRep w F b p M t) : InF F w := by obtain ⟨_, _, _, _, _, h, _⟩ := h; exact h
theorem DecRep.fr (h : DecRep w F b p M t) (hf : Fr G w w') (ha : Apart F G) : DecRep w' F b p M t := by
  obtain ⟨bm, vl, dn, h1, h2, h3, h4, h5, h6⟩ := h
  refine ⟨bm, vl, dn, h1.fr hf (ha _ h2), h2, h3.le hf.size, h4.fr hf fun k hk => ha k hk.1, fun e => ?_, h6⟩
  obtain ⟨rs, e1, e2⟩ := h5 e
  exact ⟨rs, e1, e2.fr hf fun k hk => ha k hk.1⟩
theorem DecRep.frN (h : DecRep w F b p M t) (hf : Fr NoF w w') : DecRep w' F b p M t := h.fr hf fun _ _ g => g
theorem DecRep.mono (h : DecRep w F b p M t) (hF : ∀ k, F k → G k) (hG : InF G w) : DecRep w G b p M t := by
  obtain ⟨bm, vl, dn, h1, h2, h3, h4, h5, h6⟩ := h
  refine ⟨bm, vl, dn, h1, hF _ h2, hG, h4.mono (fun k hk => ⟨hF _ hk.1, hk.2⟩) fun k hk => hG k hk.1, fun e => ?_, h6⟩
  obtain ⟨rs, e1, e2⟩ := h5 e
  exact ⟨rs, e1, e2.mono fun k hk => ⟨hF _ hk.1, hk.2⟩⟩
end

set_option maxRecDepth 100000 in
/-- A new decoder. -/
theorem dec_new {w : World} {p : Par} (h : p.Ok) (he : Env w) :
    Calls Tryz.prog 11 #[.agg p.cells] w fun e w' => ∃ b, e = .returned (.pointer (some ⟨b, 0, none⟩)) ∧ Fr NoF w w' ∧ DecRep w' (upF NoF w w') b p (parMat p p.P) 0 := by
  have hm := fun w => may_ok (w := w) h
  have hpc := fun w => pieces_ok (w := w) h
  have hr := fun w => rows_any (w := w) h
  have hbk := Blk.new w p.cells 24
  have HOK := Lib.hid h
  have n1 := h.n1
  have n2 := h.n2
  obtain ⟨_, k1, k2, p2, z1, z2⟩ := h
  have HMN := Lib.hid (fun (w : World) (hg : gl ≤ w.heap.size) => mat_new (w := w) p.n p.sz n1 (by omega) z1 z2 hg)
  have hmk := make_u8 p.sz (by omega) (by omega)
  rw [Int.toNat_natCast] at hmk
  have HB := Lib.hid hbk
  have HE := Lib.hid he
  have hg := he.1
  clear hbk he
  unfold Par.cells at *
  go_enter Tryz.func11, Tryz.ntmps11
  go_wp2_with fail
  refine (hm _).mono ?_
  rintro e w1 ⟨rfl, hf1⟩
  have HB1 : Hid (Blk w1 w.heap.size _ _) := HB.out.frN hf1
  have HF1 : Hid (Fr NoF w w1) := ((Fr.refl NoF w).alloc _).trans' hf1
  have hsz1 := HB1.out.lt
  have c0 : w1.cell? ⟨w.heap.size, 0, none⟩ = some (.int .u32 p.ses) := HB1.out.cell 0 rfl
  have c1 : w1.cell? ⟨w.heap.size, 1, none⟩ = some (.int .i64 p.K) := HB1.out.cell 1 rfl
  have c2 : w1.cell? ⟨w.heap.size, 2, none⟩ = some (.int .i64 p.P) := HB1.out.cell 2 rfl
  have c3 : w1.cell? ⟨w.heap.size, 3, none⟩ = some (.int .i64 p.sz) := HB1.out.cell 3 rfl
  clear hf1
  go_wp2_with fail
  go_cut [3] (fun s wx => ∃ bm b, s = .pointer (some ⟨b, 0, none⟩) ∧ w.heap.size < b ∧ Hid (Fr NoF w1 wx) ∧ Hid (MatRep wx (fun j => w.heap.size < j ∧ j < b) bm p.n p.sz (mat0 p.n)) ∧ Hid (Blk wx b (decCells p bm 0 0 0 (.slice none 0 0)) 75))
  case first =>
    go_region_held3 (fun w' => Fr NoF w1 w' ∧ w'.cell? ⟨w.heap.size, 0, none⟩ = some (.int .u32 p.ses) ∧ w'.cell? ⟨w.heap.size, 1, none⟩ = some (.int .i64 p.K) ∧ w'.cell? ⟨w.heap.size, 2, none⟩ = some (.int .i64 p.P) ∧ w'.cell? ⟨w.heap.size, 3, none⟩ = some (.int .i64 p.sz))
      (first | exact ⟨(Fr.refl _ _).drewN _, c0, c1, c2, c3⟩ | exact ⟨by assumption, by assumption, by assumption, by assumption, by assumption⟩ | exact ⟨Fr.alloc (And.left (by assumption)) _, by go_keep⟩ | exact ⟨Fr.alloc hS2 _, by go_keep⟩)
      (first | (go_at_call 26; refine (hpc _).mono ?_; rintro e w2 ⟨rfl, hf⟩; have hS1 := Fr.trans' (And.left (by assumption)) hf; have d0 := hS1.cellN c0; have d1 := hS1.cellN c1; have d2 := hS1.cellN c2; have d3 := hS1.cellN c3) | (go_at_call 19; refine (HMN.out _ (Nat.le_trans hg (Nat.le_trans (Nat.le_of_lt hsz1) (Fr.size (And.left (by assumption)))))).mono ?_; rintro e w3 ⟨bm, rfl, hf3, hm3⟩; have hsz2 : w1.heap.size ≤ _ := Fr.size (And.left (by assumption)); have hS2 := Fr.trans' (And.left (by assumption)) hf3; have e0 := hS2.cellN c0; have e1 := hS2.cellN c1; have e2 := hS2.cellN c2; have e3 := hS2.cellN c3; have HM3 := Lib.hid hm3; clear hm3))
    all_goals go_wp2_with fail
    all_goals go_meet
    have hsz3 := hf3.size
    have hi3 := HM3.out.inF
    refine ⟨bm, w3.heap.size, rfl, by omega, hS2.alloc _, ?_, Blk.new _ _ _⟩
    refine (HM3.out.mono (G := fun j => w.heap.size < j ∧ j < w3.heap.size) (fun k hk => ?_) fun k hk => ?_).frN ((Fr.refl _ _).alloc _)
    · rcases hk with hk | hk
      · exact hk.elim
      · exact ⟨by omega, hk.2⟩
    · have hg' := hg
      exact ⟨by omega, hk.2⟩
  case rest =>
    clear c0 c1 c2 c3
    obtain ⟨bm, b, rfl, hwb, HF2, HM2, HD2⟩ := hcut
    have hbx := HD2.out.lt
    have HF12 : Hid (Fr NoF w wc) := HF1.out.transN HF2.out
    have HB2 : Hid (Blk wc w.heap.size _ _) := HB1.out.frN HF2.out
    have c0 : wc.cell? ⟨w.heap.size, 0, none⟩ = some (.int .u32 p.ses) := HB2.out.cell 0 rfl
    have c1 : wc.cell? ⟨w.heap.size, 1, none⟩ = some (.int .i64 p.K) := HB2.out.cell 1 rfl
    have c2 : wc.cell? ⟨w.heap.size, 2, none⟩ = some (.int .i64 p.P) := HB2.out.cell 2 rfl
    have c3 : wc.cell? ⟨w.heap.size, 3, none⟩ = some (.int .i64 p.sz) := HB2.out.cell 3 rfl
    go_wp2_with fail
    refine (hr _).mono ?_
    clear c0 c1 c2 c3
    rintro e w4 ⟨vr, gs, rfl, hf4, hgl, hgo, hgr⟩
    obtain ⟨pr, cr, rfl⟩ := ownsRow_slice hgo
    have HF4 := Lib.hid hf4
    have HGO := Lib.hid hgo
    have HGR := Lib.hid hgr
    have HGL := Lib.hid hgl
    have HD4 : Hid (Blk w4 b _ _) := HD2.out.frN hf4
    have HB4 : Hid (Blk w4 w.heap.size _ _) := HB2.out.frN hf4
    have HM4 : Hid (MatRep w4 (fun j => (w.heap.size < j ∧ j < b) ∨ (w4.heap.size ≤ j ∧ j < w4.heap.size)) bm p.n p.sz (parMat p 0)) := (HM2.out.frN hf4).mono (fun k hk => .inl hk) fun k hk => by
      have hg' := hg
      have hs := hf4.size
      rcases hk with hk | hk
      · exact ⟨by omega, by omega⟩
      · omega
    have hb4 := HD4.out.lt
    have hsz4 := hf4.size
    rw [hgl]
    clear hf4 hgo hgr hgl HD2 HM2 HB2
    go_wp2_with fail
    go_loopw [20] (fun i wr => ∃ k : Nat, k ≤ p.P ∧ i = .int .i64 k ∧ Hid (Fr (fun j => w.heap.size < j ∧ j < b) w4 wr) ∧ Hid (MatRep wr (fun j => (w.heap.size < j ∧ j < b) ∨ (w4.heap.size ≤ j ∧ j < wr.heap.size)) bm p.n p.sz (parMat p k))) (fun i _ => p.P - (intOf i).toNat)
    case atStart => exact ⟨0, Nat.zero_le _, rfl, Fr.refl _ _, HM4⟩
    case round =>
      clear HM4
      obtain ⟨k, hk, rfl, HF5, HM5⟩ := hrel
      by_cases hltP : k < p.P
      · have hgk : k < gs.length := by rw [HGL.out]; exact hltP
        have hgk' := HGR.out k gs[k] (List.getElem?_eq_getElem hgk)
        have hvr : VecRep wr gs[k].1 gs[k].2 p.n (parRow p k) := hgk'.1.fr HF5.out (fun h => by have := hgk'.2.1; omega) (fun h => by have := hgk'.2.2; omega)
        obtain ⟨gr, rfl, hck⟩ : ∃ g, pr = some ⟨g, 0, none⟩ ∧ wr.cell? ⟨g, k, none⟩ = some (.pointer (some ⟨gs[k].1, 0, none⟩)) := by
          obtain ⟨g, c, e, hwg, _, hc⟩ := own_cells HGO.out (by omega)
          injection e with e1 _ _
          subst e1
          exact ⟨g, rfl, HF5.out.cell (hc k _ (by simp [ptrs, hgk])).1 (fun h => by omega)⟩
        have c3 : wr.cell? ⟨w.heap.size, 3, none⟩ = some (.int .i64 p.sz) := HF5.out.cell (HB4.out.cell 3 rfl) (fun h => by omega)
        have d4 : wr.cell? ⟨b, 4, none⟩ = some (.pointer (some ⟨bm, 0, none⟩)) := HF5.out.cell (HD4.out.cell 4 rfl) (fun h => by omega)
        have he5 : Env wr := ((HE.out.frN (HF12.out.transN HF4.out)).of HF5.out fun k hk => by have hg' := hg; omega)
        have HVR := Lib.hid hvr
        have HE5 := Lib.hid he5
        clear hvr he5 hgk'
        have hdw := ((Fr.refl NoF wr).alloc (.cells (Array.replicate p.sz (.int .u8 0)) 5)).drew
        have hz : Blk (wr.alloc (.cells (Array.replicate p.sz (.int .u8 0)) 5)).drew wr.heap.size (bytesV (zeroL p.sz)).toArray 5 := by
          have e : (bytesV (zeroL p.sz)).toArray = Array.replicate p.sz (.int .u8 0) := by simp [bytesV, byteV, zeroL]
          rw [e]; exact Blk.new _ _ _
        have hzl : (zeroL p.sz).length = p.sz := by simp [zeroL]
        have hzo := SlAt.owned (hz.owned (Nat.le_refl _) (by rw [hzl]; omega))
        rw [hzl] at hzo
        have HA := Lib.hid (mat_add (HM5.out.frN hdw) (HVR.out.frN hdw) (HE5.out.frN hdw) hzo hzl fun hs => (parMat_spans p (by omega)).inv.hfree (parRow_lt hltP) hs)
        have hup : ∀ (w' : World) j, upF (fun j => (w.heap.size < j ∧ j < b) ∨ (w4.heap.size ≤ j ∧ j < wr.heap.size)) (wr.alloc (.cells (Array.replicate p.sz (.int .u8 0)) 5)).drew w' j → (w.heap.size < j ∧ j < b) ∨ (w4.heap.size ≤ j ∧ j < wr.heap.size) ∨ (wr.heap.size < j ∧ j < w'.heap.size) := by
          intro w' j hj
          have hsa : (wr.alloc (.cells (Array.replicate p.sz (.int .u8 0)) 5)).drew.heap.size = wr.heap.size + 1 := by show (wr.alloc _).heap.size = _; rw [World.size_alloc]
          rcases hj with (hj | hj) | hj
          · exact .inl hj
          · exact .inr (.inl hj)
          · rw [hsa] at hj; exact .inr (.inr ⟨by omega, hj.2⟩)
        have HUP := Lib.hid hup
        have hs45 := HF5.out.size
        have hwr3 : w.heap.size < wr.heap.size := by omega
        have hbr : b < wr.heap.size := by omega
        have hn3 : ¬ ((w.heap.size < w.heap.size ∧ w.heap.size < b) ∨ (w4.heap.size ≤ w.heap.size ∧ w.heap.size < wr.heap.size)) := by omega
        have hnb : ¬ ((w.heap.size < b ∧ b < b) ∨ (w4.heap.size ≤ b ∧ b < wr.heap.size)) := by omega
        have HDW := Lib.hid hdw
        clear hup hz hzo hdw
        go_wp2_with fail
        go_region_held3 (fun w' => Fr (fun j => (w.heap.size < j ∧ j < b) ∨ (w4.heap.size ≤ j ∧ j < wr.heap.size)) wr w' ∧ w'.cell? ⟨w.heap.size, 3, none⟩ = some (.int .i64 p.sz) ∧ w'.cell? ⟨b, 4, none⟩ = some (.pointer (some ⟨bm, 0, none⟩)))
          (first | exact ⟨(Fr.refl _ _).drewN _, c3, d4⟩ | exact ⟨by assumption, by assumption, by assumption⟩ | exact ⟨Fr.alloc (And.left (by assumption)) _, by go_keep⟩ | exact ⟨((Fr.refl _ _).drewN _).alloc _, by go_keep⟩)
          (first | (go_at_call 21; refine HA.out.mono ?_; rintro e w6 ⟨rfl, _, hf6, hm6⟩; have hS6 : Fr (fun j => (w.heap.size < j ∧ j < b) ∨ (w4.heap.size ≤ j ∧ j < wr.heap.size)) wr w6 := (HDW.out.no).trans' hf6; have f3 := hS6.cell c3 hn3; have f4 := hS6.cell d4 hnb; have HM6 := Lib.hid hm6; clear hm6 hf6))
        all_goals go_wp2_with fail
        go_roundw
        case rel =>
          have hs6 := hS6.size
          have hrange : ∀ j, upF (fun j => (w.heap.size < j ∧ j < b) ∨ (w4.heap.size ≤ j ∧ j < wr.heap.size)) (wr.alloc (.cells (Array.replicate p.sz (.int .u8 0)) 5)).drew w6 j → (w.heap.size < j ∧ j < b) ∨ (w4.heap.size ≤ j ∧ j < w6.heap.size) := fun j hj => by
            rcases HUP.out w6 j hj with h | h | h
            · exact .inl h
            · exact .inr ⟨h.1, by omega⟩
            · exact .inr ⟨by omega, h.2⟩
          refine ⟨k + 1, by omega, by go_num, HF5.out.trans hS6 (fun i hi h => ?_), HM6.out.mono hrange fun j hj => ?_⟩
          · rcases h with h | h
            · exact h
            · omega
          · have hg' := hg
            exact ⟨by omega, by omega⟩
        case measure => simp [intOf]; omega
      · have e : k = p.P := by omega
        rw [e] at HM5
        clear e
        go_wp2_with fail
        go_ret
        have hs5 := HF5.out.size
        have hfin : Fr NoF w wr := (HF12.out.transN HF4.out).trans HF5.out fun i hi h => by omega
        have hin : InF (upF NoF w wr) wr := InF.up (InF.no w) hg hfin.size
        have hbb : Blk wr b (decCells p bm 0 0 0 (.slice none 0 0)) 75 := HD4.out.fr HF5.out fun h => by omega
        refine ⟨b, rfl, hfin, bm, .slice none 0 0, false, hbb, .inr ⟨by omega, by omega⟩, hin, HM5.out.mono (fun j hj => ⟨.inr ?_, ?_⟩) fun j hj => hin j hj.1, by simp, fun _ => rfl, HOK.out, (parMat_spans p (Nat.le_refl _)).inv, ?_⟩
        · rcases hj with hj | hj
          · exact ⟨by omega, by omega⟩
          · exact ⟨by omega, by omega⟩
        · rcases hj with hj | hj <;> omega
        · rw [parMat_rank p (Nat.le_refl _)]; omega
end Go.Proofs.YtamdmkjejpkbiaaGreatDoor
