/- A decoder: what it says, takes, needs. -/
import Derived.Test.YtamdmkjejpkbiaaGreatDoorDec
namespace Go.Proofs.YtamdmkjejpkbiaaGreatDoor
open Go Go.RowKit Go.Proofs

theorem DecRep.open {w : World} {F : Nat → Prop} {b t : Nat} {p : Par} {M : Mat} (h : DecRep w F b p M t) : ∃ bm, MatRep w (fun k => F k ∧ k ≠ b) bm p.n p.sz M ∧ F b ∧ w.cell? ⟨b, 0, none⟩ = some (.int .u32 p.ses) ∧ w.cell? ⟨b, 1, none⟩ = some (.int .i64 p.K) ∧
    w.cell? ⟨b, 2, none⟩ = some (.int .i64 p.P) ∧ w.cell? ⟨b, 3, none⟩ = some (.int .i64 p.sz) ∧ w.cell? ⟨b, 4, none⟩ = some (.pointer (some ⟨bm, 0, none⟩)) ∧ w.cell? ⟨b, 5, none⟩ = some (.int .i64 t) ∧ w.frozen? ⟨b, 5, none⟩ = false := by
  obtain ⟨bm, vl, dn, h1, h2, h3, h4, _⟩ := h
  exact ⟨bm, h4, h2, h1.cell 0 rfl, h1.cell 1 rfl, h1.cell 2 rfl, h1.cell 3 rfl, h1.cell 4 rfl, h1.cell 5 rfl, h1.frozen 5⟩

set_option maxRecDepth 100000 in
/-- Does a symbol say something new? -/
theorem dec_says {w : World} {F : Nat → Prop} {b t : Nat} {p : Par} {M : Mat} (h : DecRep w F b p M t) (he : Env w) (id : Nat) (hid : id < 4294967296) :
    Calls Tryz.prog 16 #[.pointer (some ⟨b, 0, none⟩), .int .u32 id] w fun e w' => e = .returned (.bool (says M (rowN p id) [])) ∧ Fr NoF w w' := by
  have hr := fun w => row_any (w := w) h.ok id hid
  obtain ⟨bm, hm, hFb, c0, c1, c2, c3, c4, _⟩ := h.open
  have HM := Lib.hid hm
  have HE := Lib.hid he
  clear h hm he
  go_enter Tryz.func16, Tryz.ntmps16
  go_wp2_with fail
  go_region_held3 (fun w' => Fr NoF w w' ∧ w'.cell? ⟨b, 0, none⟩ = some (.int .u32 p.ses) ∧ w'.cell? ⟨b, 1, none⟩ = some (.int .i64 p.K) ∧ w'.cell? ⟨b, 2, none⟩ = some (.int .i64 p.P) ∧ w'.cell? ⟨b, 3, none⟩ = some (.int .i64 p.sz) ∧ w'.cell? ⟨b, 4, none⟩ = some (.pointer (some ⟨bm, 0, none⟩)))
    (first | exact ⟨(Fr.refl _ _).drewN _, c0, c1, c2, c3, c4⟩ | exact ⟨by assumption, by assumption, by assumption, by assumption, by assumption, by assumption⟩)
    (first | (go_at_call 22; refine (hr _).mono ?_; rintro e w1 ⟨bv, bw, rfl, hf, hv, _, _⟩; have hS1 := Fr.trans' (And.left (by assumption)) hf; have d0 := hS1.cellN c0; have d1 := hS1.cellN c1; have d2 := hS1.cellN c2; have d3 := hS1.cellN c3; have d4 := hS1.cellN c4; have HV := Lib.hid hv; clear hv) | (go_at_call 34; refine (mat_says (HM.out.frN hS1) HV.out (HE.out.frN hS1) []).mono ?_; rintro e w2 ⟨rfl, hf2⟩; have hS2 := hS1.transN hf2; have e0 := hS2.cellN c0; have e1 := hS2.cellN c1; have e2 := hS2.cellN c2; have e3 := hS2.cellN c3; have e4 := hS2.cellN c4))
  all_goals go_wp2_with fail
  all_goals go_ret
  all_goals exact ⟨rfl, hS2⟩

theorem DecRep.dec_cases {w : World} {F : Nat → Prop} {b t : Nat} {p : Par} {M : Mat} (h : DecRep w F b p M t) : rank M ≤ 80 := by
  have := h.inv.rank_le
  have := h.ok.n2
  omega

set_option maxRecDepth 100000 in
/-- How many were taken. -/
theorem dec_taken {w : World} {F : Nat → Prop} {b t : Nat} {p : Par} {M : Mat} (h : DecRep w F b p M t) :
    Calls Tryz.prog 14 #[.pointer (some ⟨b, 0, none⟩)] w fun e w' => e = .returned (.int .i64 t) ∧ w = w' := by
  obtain ⟨bm, hm, hFb, c0, c1, c2, c3, c4, c5, z5⟩ := h.open
  clear h hm
  go_enter Tryz.func14, Tryz.ntmps14
  go_wp2_with fail
  refine (at_load_i64 c5).mono ?_
  rintro e w' ⟨rfl, rfl⟩
  go_wp2_with fail
  go_ret
  exact ⟨rfl, rfl⟩

set_option maxRecDepth 100000 in
/-- How many more must say something new. -/
theorem dec_needs {w : World} {F : Nat → Prop} {b t : Nat} {p : Par} {M : Mat} (h : DecRep w F b p M t) :
    Calls Tryz.prog 12 #[.pointer (some ⟨b, 0, none⟩)] w fun e w' => e = .returned (.int .i64 (p.n - rank M : Nat)) ∧ Fr NoF w w' := by
  have hp := fun w => pieces_ok (w := w) h.ok
  have hrl := h.inv.rank_le
  have hn := h.ok.n2
  obtain ⟨bm, hm, hFb, c0, c1, c2, c3, c4, _⟩ := h.open
  have HM := Lib.hid hm
  clear h hm
  obtain ⟨q, hq⟩ : ∃ q, q = p.n - rank M := ⟨_, rfl⟩
  have hsub : ((p.n : Int) - (rank M : Nat)) = (q : Int) := by omega
  have hq80 : q ≤ 80 := by omega
  rw [← hq]
  clear hq hrl
  have hwq : IntKind.i64.wrap (q : Int) = q := by rw [IntKind.wrap_i64]; omega
  go_enter Tryz.func12, Tryz.ntmps12
  go_wp2_with fail
  go_region_held3 (fun w' => Fr NoF w w' ∧ w'.cell? ⟨b, 0, none⟩ = some (.int .u32 p.ses) ∧ w'.cell? ⟨b, 1, none⟩ = some (.int .i64 p.K) ∧ w'.cell? ⟨b, 2, none⟩ = some (.int .i64 p.P) ∧ w'.cell? ⟨b, 3, none⟩ = some (.int .i64 p.sz) ∧ w'.cell? ⟨b, 4, none⟩ = some (.pointer (some ⟨bm, 0, none⟩)))
    (first | exact ⟨(Fr.refl _ _).drewN _, c0, c1, c2, c3, c4⟩ | exact ⟨by assumption, by assumption, by assumption, by assumption, by assumption, by assumption⟩)
    (first | (go_at_call 26; refine (hp _).mono ?_; rintro e w1 ⟨rfl, hf⟩; have hS1 := Fr.trans' (And.left (by assumption)) hf; have d0 := hS1.cellN c0; have d1 := hS1.cellN c1; have d2 := hS1.cellN c2; have d3 := hS1.cellN c3; have d4 := hS1.cellN c4) | (go_at_call 23; refine (mat_rank (HM.out.frN (And.left (by assumption)))).mono ?_; rintro e w2 ⟨rfl, rfl⟩))
  all_goals go_wp2_with fail
  all_goals go_ret
  all_goals exact ⟨by go_num, And.left (by assumption)⟩

set_option maxRecDepth 100000 in
/-- A symbol of right length is taken. -/
theorem dec_take {w : World} {F : Nat → Prop} {b t : Nat} {p : Par} {M : Mat} (h : DecRep w F b p M t) (he : Env w) (id : Nat) (hid : id < 4294967296) {G : Nat → Prop} {vd : Value} {d : List UInt8} (hd : SlAt G w vd (bytesV d)) (hl : d.length = p.sz) :
    Calls Tryz.prog 13 #[.pointer (some ⟨b, 0, none⟩), .int .u32 id, vd] w fun e w' => e = .returned (.bool (says M (rowN p id) d)) ∧ Fr F w w' ∧ DecRep w' (upF F w w') b p (add M (rowN p id) d) (t + if says M (rowN p id) d then 1 else 0) := by
  have hr := fun w => row_any (w := w) h.ok id hid
  have hbo := h.dec_cases
  have htk := h.tk
  have hinF := h.inF
  have hg := he.1
  obtain ⟨bm, vl, dn, hb, hFb, hin, hm, hdn1, hdn0, hok, hinv, _⟩ := h
  have c0 : w.cell? ⟨b, 0, none⟩ = some (.int .u32 p.ses) := hb.cell 0 rfl
  have c1 : w.cell? ⟨b, 1, none⟩ = some (.int .i64 p.K) := hb.cell 1 rfl
  have c2 : w.cell? ⟨b, 2, none⟩ = some (.int .i64 p.P) := hb.cell 2 rfl
  have c3 : w.cell? ⟨b, 3, none⟩ = some (.int .i64 p.sz) := hb.cell 3 rfl
  have c4 : w.cell? ⟨b, 4, none⟩ = some (.pointer (some ⟨bm, 0, none⟩)) := hb.cell 4 rfl
  have HA := Lib.hid (fun (w' : World) (hf : Fr NoF w w') (bv bw : Nat) (hv : VecRep w' bv bw p.n (rowN p id)) => mat_add (hm.frN hf) hv (he.frN hf) (hd.frN hf) hl (fun hs => hinv.hfree (rowN_lt id) hs))
  have hbl := hb.lt
  have HB := Lib.hid hb
  have HIN := Lib.hid hin
  have HD1 := Lib.hid hdn1
  have HD0 := Lib.hid hdn0
  have HINV := Lib.hid hinv
  have HTK := Lib.hid htk
  obtain ⟨pd, cd, e⟩ := hd.shape
  rw [bytesV_length, hl] at e
  subst e
  have hra := Lib.hid (hinv.rank_add (x := rowN p id) (d := d) (rowN_lt id))
  obtain ⟨s, hs⟩ : ∃ s, s = says M (rowN p id) d := ⟨_, rfl⟩
  have hful : Hid (s = true → dn = false) := fun e => by
    cases hdn : dn with
    | false => rfl
    | true =>
      obtain ⟨rs, e1, _⟩ := hdn1 hdn
      have hrk : rank M = p.n := by
        have := hinv.len
        subst e1
        unfold rank
        rw [List.filter_eq_self.2 (fun a ha => by simp only [List.mem_map] at ha; obtain ⟨r, _, rfl⟩ := ha; rfl)]
        exact this
      have := hinv.full_says hrk d (rowN_lt (p := p) id)
      rw [← hs, e] at this
      simp at this
  rw [← hs] at HA hra ⊢
  have HS := Lib.hid hs
  clear hb hin hm hdn1 hdn0 hinv htk hd he hs
  go_enter Tryz.func13, Tryz.ntmps13
  go_wp2_with fail
  go_cut [23] (fun sv wx => sv = .bool (!s) ∧ Hid (Fr (fun k => F k ∧ k ≠ b) w wx) ∧ Hid (s = false → Fr NoF w wx) ∧ Hid (MatRep wx (upF (fun k => F k ∧ k ≠ b) w wx) bm p.n p.sz (add M (rowN p id) d)))
  case first =>
    go_region_held3 (fun w' => Fr (fun k => F k ∧ k ≠ b) w w' ∧ w'.cell? ⟨b, 0, none⟩ = some (.int .u32 p.ses) ∧ w'.cell? ⟨b, 1, none⟩ = some (.int .i64 p.K) ∧ w'.cell? ⟨b, 2, none⟩ = some (.int .i64 p.P) ∧ w'.cell? ⟨b, 3, none⟩ = some (.int .i64 p.sz) ∧ w'.cell? ⟨b, 4, none⟩ = some (.pointer (some ⟨bm, 0, none⟩)))
      (first | exact ⟨(Fr.refl _ _).drewN _, c0, c1, c2, c3, c4⟩ | exact ⟨by assumption, by assumption, by assumption, by assumption, by assumption, by assumption⟩)
      (first | (go_at_call 22; refine (hr _).mono ?_; rintro e w1 ⟨bv, bw, rfl, hf, hv, _, _⟩; have hS0 := Fr.trans' ((Fr.refl NoF w).drewN _) hf; have hS1 : Fr (fun k => F k ∧ k ≠ b) w w1 := hS0.no; have d0 := hS0.cellN c0; have d1 := hS0.cellN c1; have d2 := hS0.cellN c2; have d3 := hS0.cellN c3; have d4 := hS0.cellN c4; have HV := Lib.hid hv; clear hv) | (go_at_call 21; refine (HA.out _ hS0 _ _ HV.out).mono ?_; rintro e w2 ⟨rfl, hn2, hf2, hm2⟩; have hS2 : Fr (fun k => F k ∧ k ≠ b) w w2 := hS1.trans' hf2; have e0 := hS2.cell c0 (fun h => h.2 rfl); have e1 := hS2.cell c1 (fun h => h.2 rfl); have e2 := hS2.cell c2 (fun h => h.2 rfl); have e3 := hS2.cell c3 (fun h => h.2 rfl); have e4 := hS2.cell c4 (fun h => h.2 rfl); have HM2 := Lib.hid hm2; have HN2 := Lib.hid hn2; clear hm2 hn2))
    all_goals go_wp2_with fail
    all_goals go_meet
    have hs1 := hS0.size
    have hs2 := hf2.size
    refine ⟨rfl, hS2, fun e => hS0.trans' (HN2.out e), HM2.out.mono (fun k hk => ?_) ?_⟩
    · rcases hk with hk | hk
      · exact .inl hk
      · exact .inr ⟨by omega, hk.2⟩
    · exact InF.up (fun k hk => HIN.out k hk.1) hg hS2.size
  case rest =>
    obtain ⟨rfl, HF, HN, HM⟩ := hcut
    have hsz := HF.out.size
    have hbc : Blk wc b (decCells p bm t (if dn then 1 else 0) 0 vl) 75 := HB.out.fr HF.out fun h => h.2 rfl
    have hFF : Fr F w wc := HF.out.mono fun k _ hk => hk.1
    have HFF := Lib.hid hFF
    have HBC := Lib.hid hbc
    have c5 := hbc.cell 5 rfl
    have z5 := hbc.frozen 5
    have hmm : ∀ k, upF (fun k => F k ∧ k ≠ b) w wc k → upF F w wc k ∧ k ≠ b := fun k hk => by
      rcases hk with hk | hk
      · exact ⟨.inl hk.1, hk.2⟩
      · exact ⟨.inr hk, by omega⟩
    have HMM := Lib.hid hmm
    clear hFF hbc hmm c0 c1 c2 c3 c4
    cases s with
    | false =>
      have hnf : Fr NoF w wc := HN.out rfl
      have HNF := Lib.hid hnf
      clear hnf
      go_wp2_with fail
      go_ret
      have hadd : add M (rowN p id) d = M := by unfold add; rw [← HS.out]; simp
      refine ⟨rfl, HFF.out, bm, vl, dn, HBC.out, .inl hFb, HIN.out.up hg hsz, HM.out.mono HMM.out fun k hk => HIN.out.up hg hsz k hk.1, fun e => ?_, HD0.out, hok, HINV.out.add d (rowN_lt id), ?_⟩
      · obtain ⟨rs, e1, e2⟩ := HD1.out e
        exact ⟨rs, hadd.trans e1, (e2.frN HNF.out).mono fun k hk => ⟨.inl hk.1, hk.2⟩⟩
      · rw [hra.out]; simpa using HTK.out
    | true =>
      have hdnf := hful.out rfl
      subst hdnf
      have ht : t < 1000000000 := by have := HTK.out; omega
      obtain rfl := HD0.out rfl
      go_wp2_with fail
      refine (at_add_i64 ht c5 z5).mono ?_
      rintro e w3 ⟨rfl, rfl⟩
      go_wp2_with fail
      go_ret
      have hf3 : Fr (fun k => k = b) wc (wc.setCell ⟨b, 5, none⟩ (.int .i64 (t + 1 : Nat))) := (Fr.refl (fun k => k = b) wc).setCell (p := ⟨b, 5, none⟩) (fun _ => rfl) _
      have hf4 : Fr F w (wc.setCell ⟨b, 5, none⟩ (.int .i64 (t + 1 : Nat))) := HFF.out.trans hf3 fun k _ e => by subst e; exact hFb
      have hin4 := HIN.out.up hg hf4.size
      have hsz4 := hf3.size
      refine ⟨rfl, hf4, bm, .slice none 0 0, false, HBC.out.setCell 5 _, .inl hFb, hin4, ((HM.out.mono HMM.out fun k hk => HIN.out.up hg hsz k hk.1).fr hf3 fun k hk => hk.2).mono (fun k hk => ⟨?_, hk.2⟩) fun k hk => hin4 k hk.1, by simp, fun _ => rfl, hok, HINV.out.add d (rowN_lt id), ?_⟩
      · rcases hk.1 with h | h
        · exact .inl h
        · exact .inr ⟨h.1, Nat.lt_of_lt_of_le h.2 hsz4⟩
      · rw [hra.out, ← HTK.out]; simp; omega

set_option maxRecDepth 100000 in
/-- A symbol of another length is not. -/
theorem dec_take_bad {w : World} {F : Nat → Prop} {b t : Nat} {p : Par} {M : Mat} (h : DecRep w F b p M t) (id : Nat) (hid : id < 4294967296) {pd : Option Addr} {l c : Nat} (hl : l ≠ p.sz) :
    Calls Tryz.prog 13 #[.pointer (some ⟨b, 0, none⟩), .int .u32 id, .slice pd l c] w fun e w' => e = .returned (.bool false) ∧ Fr NoF w w' := by
  have hr := fun w => row_any (w := w) h.ok id hid
  obtain ⟨bm, hm, hFb, c0, c1, c2, c3, c4, _⟩ := h.open
  have HM := Lib.hid hm
  clear h hm
  go_enter Tryz.func13, Tryz.ntmps13
  go_wp2_with fail
  go_cut [23] (fun sv wx => sv = .bool true ∧ Hid (Fr NoF w wx))
  case first =>
    go_region_held3 (fun w' => Fr NoF w w' ∧ w'.cell? ⟨b, 0, none⟩ = some (.int .u32 p.ses) ∧ w'.cell? ⟨b, 1, none⟩ = some (.int .i64 p.K) ∧ w'.cell? ⟨b, 2, none⟩ = some (.int .i64 p.P) ∧ w'.cell? ⟨b, 3, none⟩ = some (.int .i64 p.sz) ∧ w'.cell? ⟨b, 4, none⟩ = some (.pointer (some ⟨bm, 0, none⟩)))
      (first | exact ⟨(Fr.refl _ _).drewN _, c0, c1, c2, c3, c4⟩ | exact ⟨by assumption, by assumption, by assumption, by assumption, by assumption, by assumption⟩)
      (first | (go_at_call 22; refine (hr _).mono ?_; rintro e w1 ⟨bv, bw, rfl, hf, hv, _, _⟩; have hS1 := Fr.trans' (And.left (by assumption)) hf; have d0 := hS1.cellN c0; have d1 := hS1.cellN c1; have d2 := hS1.cellN c2; have d3 := hS1.cellN c3; have d4 := hS1.cellN c4; have HV := Lib.hid hv; clear hv) | (go_at_call 21; refine (mat_add_bad (HM.out.frN hS1) _ hl).mono ?_; rintro e w2 ⟨rfl, hf2⟩; have hS2 := hS1.transN hf2; have e0 := hS2.cellN c0; have e1 := hS2.cellN c1; have e2 := hS2.cellN c2; have e3 := hS2.cellN c3; have e4 := hS2.cellN c4))
    all_goals go_wp2_with fail
    all_goals go_meet
    all_goals exact ⟨rfl, hS2⟩
  case rest =>
    obtain ⟨rfl, HF⟩ := hcut
    go_wp2_with fail
    go_ret
    exact ⟨rfl, HF.out⟩
end Go.Proofs.YtamdmkjejpkbiaaGreatDoor
