/- A decoder: the image, once there is enough. -/
import Derived.Test.YtamdmkjejpkbiaaGreatDoorDec3
namespace Go.Proofs.YtamdmkjejpkbiaaGreatDoor
open Go Go.RowKit Go.Proofs

/-- Do, done or not. -/
theorem dec_do {w : World} {F : Nat → Prop} {b t x : Nat} {p : Par} {rs : List Row} (h : DecRep w F b p (rs.map some) t) (hx : w.cell? ⟨x, 0, none⟩ = some (.pointer (some ⟨b, 0, none⟩))) :
    Calls Tryz.prog 30 #[.pointer (some ⟨b, 6, none⟩), .func (.func 31) #[] #[.pointer (some ⟨x, 0, none⟩)]] w fun e w' => e = .returned (.tuple #[]) ∧ Fr (fun k => k = b) w w' ∧
      ∃ bm vl, Blk w' b (decCells p bm t 1 0 vl) 75 ∧ MatRep w' (fun k => F k ∧ k ≠ b) bm p.n p.sz (rs.map some) ∧ BsAt (fun k => upF F w w' k ∧ k ≠ b) w' vl (rs.map Prod.snd) := by
  obtain ⟨bm, vl, dn, h1, h2, h3, h4, h5, h6, _⟩ := h
  have hlt := h1.lt
  cases dn with
  | true =>
    refine (once_done (h1.cell 6 rfl)).mono ?_
    rintro e w' ⟨rfl, rfl⟩
    obtain ⟨rs', e1, e2⟩ := h5 rfl
    have hrs : rs' = rs := (List.map_inj_right (fun x y e => Option.some.inj e)).1 e1.symm
    subst hrs
    exact ⟨rfl, Fr.refl _ _, bm, vl, h1, h4, e2.mono fun k hk => ⟨.inl hk.1, hk.2⟩⟩
  | false =>
    obtain rfl := h6 rfl
    refine (dec_once h4 (fun k hk => hk.2) h1 hx).mono ?_
    rintro e w' ⟨rfl, hf, vl, hb, ho⟩
    exact ⟨rfl, hf, bm, vl, hb, h4.fr hf fun k hk => hk.2, ho.at.mono2 fun k hk hl => ⟨.inr ⟨hk, hl⟩, by have : w.heap.size ≤ k := hk; omega⟩⟩

set_option maxRecDepth 100000 in
/-- The image. -/
theorem dec_image {w : World} {F : Nat → Prop} {b t : Nat} {p : Par} {M : Mat} (h : DecRep w F b p M t) (hg : gl ≤ w.heap.size) (hr : rank M = p.n) {image : List UInt8} (hd : DataOk p.sz (allPieces p image) M) (h1 : 1 ≤ image.length) (h2 : image.length ≤ 512) (hc : countN image.length p.sz = p.K) :
    Calls Tryz.prog 15 #[.pointer (some ⟨b, 0, none⟩), .int .i64 image.length] w fun e w' => ∃ v', e = .returned (.tuple #[v', .bool true]) ∧ Fr (fun k => k = b) w w' ∧ DecRep w' (upF F w w') b p M t ∧ w'.ownsRow w.heap.size 5 1 v' image.length (bytesV image) := by
  obtain ⟨rs, hM, hrs⟩ := solved (fun b hb => mem_allPieces hb) (allPieces_length p image) h.inv hd hr
  have hnd := dec_needs h
  have HD : Hid (∀ (w' : World), Fr NoF w w' → Calls Tryz.prog 12 #[.pointer (some ⟨b, 0, none⟩)] w' fun e w'' => e = .returned (.int .i64 0) ∧ Fr NoF w' w'') := fun w' hf => by
    have := dec_needs (h.frN hf)
    rw [hr, Nat.sub_self] at this
    exact this
  clear hnd
  subst hM
  have hok := h.ok
  have hinv := h.inv
  have htk := h.tk
  have hin := h.inF
  have k1 := hok.k1
  have n2 := hok.n2
  have z1 := hok.z1
  have z2 := hok.z2
  have hct := fun w => count_in (w := w) image.length p.sz h1 h2 z1 z2
  rw [hc] at hct
  have HDO := Lib.hid (fun (w' : World) (hf : Fr NoF w w') (x : Nat) (hx : w'.cell? ⟨x, 0, none⟩ = some (.pointer (some ⟨b, 0, none⟩))) => dec_do (h.frN hf) hx)
  obtain ⟨bm, hm, hFb, c0, c1, c2, c3, c4, _⟩ := h.open
  have hKn : p.K ≤ p.n := by unfold Par.n; omega
  have hpn : rs.length = p.n := by have := hinv.len; simpa using this
  have hjoin : Hid (∀ (w : World) (F : Nat → Prop) (v : Value), BsAt F w v (splitL image p.sz p.K) → Calls Tryz.prog 33 #[v, .int .i64 image.length] w fun e w' => ∃ v', e = .returned v' ∧ Fr NoF w w' ∧ w'.ownsRow w.heap.size 5 1 v' image.length (bytesV image)) := fun w F v hb => by
    have hle := count_le hc k1
    have := join_any hb image.length h1 h2 (by
      have e : (splitL image p.sz p.K).flatten.length = p.K * p.sz := by
        unfold splitL
        rw [chop_flatten, List.length_take, padL_length, Nat.min_self]
      rw [e]; exact hle) (fun b hb => by rw [mem_splitL hb]; omega) (by rw [splitL_length]; have := hok.k2; omega)
    rw [split_join hle] at this
    exact this
  have HFb := Lib.hid hFb
  have HIN := Lib.hid hin
  have HRS := Lib.hid hrs
  have HINV := Lib.hid hinv
  have HTK := Lib.hid htk
  have HOK := Lib.hid hok
  clear h hm hc hd hrs hinv htk hok hin hFb hr
  have hA := (Fr.refl NoF w).alloc (.cells #[.pointer (some ⟨b, 0, none⟩)] 32)
  have hx := (Blk.new w #[.pointer (some ⟨b, 0, none⟩)] 32).cell 0 rfl
  have HFA := Lib.hid hA
  replace c1 := hA.cellN c1
  replace c3 := hA.cellN c3
  clear hA c0 c2 c4
  go_enter Tryz.func15, Tryz.ntmps15
  go_wp2_with fail
  go_cut [27] (fun sv wx => sv = .bool false ∧ Hid (Fr NoF w wx) ∧ wx.cell? ⟨w.heap.size, 0, none⟩ = some (.pointer (some ⟨b, 0, none⟩)) ∧ wx.cell? ⟨b, 1, none⟩ = some (.int .i64 p.K))
  case first =>
    go_region_held3 (fun w' => Fr NoF (w.alloc (.cells #[.pointer (some ⟨b, 0, none⟩)] 32)) w' ∧ w'.cell? ⟨w.heap.size, 0, none⟩ = some (.pointer (some ⟨b, 0, none⟩)) ∧ w'.cell? ⟨b, 1, none⟩ = some (.int .i64 p.K) ∧ w'.cell? ⟨b, 3, none⟩ = some (.int .i64 p.sz))
      (first | exact ⟨(Fr.refl _ _).drewN _, hx, c1, c3⟩ | exact ⟨by assumption, by assumption, by assumption, by assumption⟩)
      (first | (go_at_call 12; refine (HD.out _ (HFA.out.transN (And.left (by assumption)))).mono ?_; rintro e w1 ⟨rfl, hf⟩; have hS1 := Fr.trans' (And.left (by assumption)) hf; have dx := hS1.cellN hx; have d1 := hS1.cellN c1; have d3 := hS1.cellN c3) | (go_at_call 29; refine (hct _).mono ?_; rintro e w2 ⟨rfl, rfl⟩))
    all_goals go_wp2_with fail
    all_goals go_meet
    all_goals exact ⟨rfl, HFA.out.transN hS1, dx, d1⟩
  case rest =>
    clear hx c1 c3
    obtain ⟨rfl, HF, hx, c1⟩ := hcut
    have hmf : ∀ (fn : Fn) (first cap : Array Value) (w : World), (Instr.makeFunc fn first cap).run Tryz.prog w = .ok (.func fn first cap) w := fun _ _ _ _ => rfl
    have hbx : w.heap.size ≠ b := by have := (HIN.out b HFb.out).2; omega
    have hdo := HDO.out _ HF.out _ hx
    go_wp2_with fail
    refine hdo.mono ?_
    clear hdo
    rintro e w3 ⟨rfl, hf3, bm', vl, hb3, hm3, hbs3⟩
    have dx := hf3.cell hx (fun e => hbx e)
    have d1 : w3.cell? ⟨b, 1, none⟩ = some (.int .i64 p.K) := hb3.cell 1 rfl
    obtain ⟨pl, cl, rfl⟩ := hbs3.len
    rw [List.length_map, hpn] at hbs3 hb3
    have d9 : w3.cell? ⟨b, 9, none⟩ = some (.slice pl p.n cl) := hb3.cell 9 rfl
    have hcl : p.n ≤ cl := by obtain ⟨vs, hv, _⟩ := hbs3; exact hv.cap.2
    have bi0 : (0 : Int) ≤ (p.K : Int) := by omega
    have bi1 : (p.K : Int) ≤ (cl : Int) := by omega
    have bi2 : (p.K : Int) ≤ (p.n : Int) := by omega
    have HBS := Lib.hid hbs3
    have HB3 := Lib.hid hb3
    have HM3 := Lib.hid hm3
    have HF3 := Lib.hid hf3
    have hbt : BsAt (fun k => upF F wc w3 k ∧ k ≠ b) w3 (.slice pl p.K cl) (splitL image p.sz p.K) := by
      have := hbs3.take hKn
      rw [HRS.out, allPieces_take] at this
      exact this
    have HBT := Lib.hid hbt
    clear hbs3 hb3 hm3 hf3 hbt hx c1 hct
    go_wp2_with fail
    go_region_held3 (fun w' => Fr NoF w3 w' ∧ w'.cell? ⟨w.heap.size, 0, none⟩ = some (.pointer (some ⟨b, 0, none⟩)) ∧ w'.cell? ⟨b, 1, none⟩ = some (.int .i64 p.K) ∧ w'.cell? ⟨b, 9, none⟩ = some (.slice pl p.n cl))
      (first | exact ⟨(Fr.refl _ _).drewN _, dx, d1, d9⟩ | exact ⟨by assumption, by assumption, by assumption, by assumption⟩)
      (first | (go_at_call 33; refine (hjoin.out _ _ _ (HBT.out.frN (And.left (by assumption)))).mono ?_; rintro e w4 ⟨v', rfl, hf4, ho4⟩; have hsj : w3.heap.size ≤ _ := Fr.size (And.left (a := Fr NoF w3 _) (by assumption)); have hS4 := Fr.trans' (And.left (by assumption)) hf4; have ex := hS4.cellN dx; have e1 := hS4.cellN d1; have e9 := hS4.cellN d9; have HO4 := Lib.hid ho4; clear ho4))
    all_goals go_wp2_with fail
    go_ret2
    have hs1 := HF.out.size
    have hs3 := HF3.out.size
    have hs4 := hS4.size
    have hfr : Fr (fun k => k = b) w w4 := (HF.out.no.trans HF3.out fun i _ e => e).transN hS4
    have hin4 := HIN.out.up hg hfr.size
    have hupc : ∀ k, upF F wc w3 k ∧ k ≠ b → upF F w w4 k ∧ k ≠ b := fun k hk => ⟨by
      rcases hk.1 with h | h
      · exact .inl h
      · exact .inr ⟨by omega, by omega⟩, hk.2⟩
    refine ⟨v', rfl, hfr, ⟨bm', .slice pl p.n cl, true, HB3.out.frN hS4, .inl HFb.out, hin4, (HM3.out.frN hS4).mono (fun k hk => ⟨.inl hk.1, hk.2⟩) fun k hk => hin4 k hk.1, fun _ => ⟨rs, rfl, (HBS.out.frN hS4).mono hupc⟩, by simp, HOK.out, HINV.out, HTK.out⟩, ownsRow_base HO4.out (Nat.le_trans (Nat.le_trans hs1 hs3) hsj)⟩
end Go.Proofs.YtamdmkjejpkbiaaGreatDoor
