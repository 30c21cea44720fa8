/- An image in pieces: what the functions of package block compute. -/
import Derived.Test.YtamdmkjejpkbiaaGreatDoorMat2
namespace Go.Proofs.YtamdmkjejpkbiaaGreatDoor
open Go Go.RowKit Go.Proofs

/-- A stretch of a row of bytes. -/
theorem SlAt.sub {w : World} {b : Nat} {full : List UInt8} {T : TypeId} (h : Blk w b (bytesV full).toArray T) (lo m c : Nat) (hm : lo + m ≤ full.length) (hc : m ≤ c) : SlAt (· = b) w (.slice (some ⟨b, lo, none⟩) m c) (bytesV ((full.drop lo).take m)) := by
  have hl : ((full.drop lo).take m).length = m := by simp; omega
  refine ⟨_, c, by rw [bytesV_length, hl], ⟨fun h => by simp at h, by rw [bytesV_length, hl]; exact hc⟩, fun _ => ⟨b, lo, rfl, rfl, h.lt, fun j hj => ?_⟩⟩
  rw [bytesV_length, hl] at hj
  rw [h.cell (lo + j) (bytesV_get (l := full) (by omega))]
  simp [bytesV, byteV]

set_option maxRecDepth 100000 in
/-- How many pieces: numbers in range. -/
theorem count_in {w : World} (len sz : Nat) (h1 : 1 ≤ len) (h2 : len ≤ 512) (h3 : 1 ≤ sz) (h4 : sz ≤ 16) :
    Calls Tryz.prog 29 #[.int .i64 len, .int .i64 sz] w fun e w' => e = .returned (.int .i64 (countN len sz)) ∧ w = w' := by
  obtain ⟨q, hq⟩ : ∃ q, q = (len + sz - 1) / sz := ⟨_, rfl⟩
  have hqi : ((len : Int) + (sz : Int) - 1) / (sz : Int) = (q : Int) := by
    rw [hq, Int.natCast_ediv]
    congr 1
    omega
  have hqb : q ≤ 1000 := by rw [hq]; exact Nat.le_trans (Nat.div_le_self _ _) (by omega)
  have hc : countN len sz = if q ≤ 64 then q else 0 := by
    unfold countN
    rw [← hq]
    by_cases h : q ≤ 64
    · rw [if_pos ⟨h1, h2, h3, h4, h⟩, if_pos h]
    · rw [if_neg (fun e => h e.2.2.2.2), if_neg h]
  have HC := Lib.hid hc
  clear hc hq
  by_cases h : q ≤ 64
  · go_enter Tryz.func29, Tryz.ntmps29
    go_wp2
    go_ret
    exact ⟨by rw [HC.out, if_pos h, ← hqi]; rfl, rfl⟩
  · go_enter Tryz.func29, Tryz.ntmps29
    go_wp2
    go_ret
    exact ⟨by rw [HC.out, if_neg h]; rfl, rfl⟩

set_option maxRecDepth 100000 in
/-- How many pieces: none. -/
theorem count_out {w : World} (len sz : Int) (h : len < 1 ∨ 512 < len ∨ sz < 1 ∨ 16 < sz) :
    Calls Tryz.prog 29 #[.int .i64 len, .int .i64 sz] w fun e w' => e = .returned (.int .i64 0) ∧ w = w' := by
  by_cases h1 : len < 1
  · go_enter Tryz.func29, Tryz.ntmps29
    go_wp2
    go_ret
    exact ⟨rfl, rfl⟩
  · by_cases h2 : 512 < len
    · go_enter Tryz.func29, Tryz.ntmps29
      go_wp2
      go_ret
      exact ⟨rfl, rfl⟩
    · by_cases h3 : sz < 1
      · go_enter Tryz.func29, Tryz.ntmps29
        go_wp2
        go_ret
        exact ⟨rfl, rfl⟩
      · have h4 : 16 < sz := by omega
        go_enter Tryz.func29, Tryz.ntmps29
        go_wp2
        go_ret
        exact ⟨rfl, rfl⟩

set_option maxRecDepth 100000 in
/-- The pieces of an image. -/
theorem split_any {w : World} {F : Nat → Prop} {v : Value} {image : List UInt8} (hs : SlAt F w v (bytesV image)) (sz : Nat) (h1 : 1 ≤ image.length) (h2 : image.length ≤ 512) (h3 : 1 ≤ sz) (h4 : sz ≤ 16) :
    Calls Tryz.prog 56 #[v, .int .i64 sz] w fun e w' => ∃ v', e = .returned v' ∧ Fr NoF w w' ∧ BsOwn w' w.heap.size v' (splitL image sz (countN image.length sz)) := by
  obtain ⟨p, cap, e, hs'⟩ := id hs
  rw [bytesV_length] at e
  subst e
  obtain ⟨n, hn⟩ : ∃ n, n = countN image.length sz := ⟨_, rfl⟩
  have hn64 : n ≤ 64 := by
    rw [hn]; unfold countN
    split
    · rename_i h; exact h.2.2.2.2
    · omega
  have hmx : max (sz : Int) 0 = (sz : Int) := by omega
  obtain ⟨N, hN⟩ : ∃ N, N = n * sz := ⟨_, rfl⟩
  have hNi : (n : Int) * (sz : Int) = (N : Int) := by rw [hN, Int.natCast_mul]
  have hNb : N ≤ 64 * 16 := by rw [hN]; exact Nat.mul_le_mul hn64 h4
  have hmk := make_u8 N (by omega) (by omega)
  rw [Int.toNat_natCast] at hmk
  have HS := Lib.hid hs
  have HNN := Lib.hid hN
  have hct := count_in (w := w) image.length sz h1 h2 h3 h4
  rw [← hn] at hct ⊢
  clear hs hs' hN hn
  go_enter Tryz.func56, Tryz.ntmps56
  go_wp2_with fail
  refine hct.mono ?_
  rintro e w1 ⟨rfl, rfl⟩
  clear hct
  have HZ : Hid (Blk (w.alloc (.cells (Array.replicate N (.int .u8 0)) 5)) w.heap.size (bytesV (List.replicate N 0)).toArray 5) := by
    have e : (bytesV (List.replicate N 0)).toArray = Array.replicate N (.int .u8 0) := by simp [bytesV, byteV]
    show Blk _ _ _ _
    rw [e]; exact Blk.new _ _ _
  have HSL : Hid (SlAt F (w.alloc (.cells (Array.replicate N (.int .u8 0)) 5)) (.slice p image.length cap) (bytesV image)) := HS.out.frN ((Fr.refl _ _).alloc _)
  go_wp2_with (refine wpList_copy_sl (o := ⟨some 20, _, _, _, _, _⟩) rfl (.tmp 18) (.tmp 19) 28 28 rfl 5 Tryz.underlying28 (by kernel_rfl) w.heap.size N N (bytesV (List.replicate N 0)) 5 rfl HZ.out (by simp [bytesV]) F (.slice p image.length cap) (bytesV image) rfl HSL.out (bytesV_one image) ?_)
  intro w2 hb2 hf2
  rw [pad_bytes] at hb2
  have HB2 := Lib.hid hb2
  have HF2 : Hid (Fr NoF w w2) := ((Fr.refl NoF w).alloc _).trans hf2 (fun i hi e => by omega)
  clear hb2 hf2 HZ HSL
  go_wp2_with fail
  go_loopw [7, 22] (fun v i wr => ∃ k : Nat, k ≤ n ∧ i = .int .i64 k ∧ Hid (Fr NoF w2 wr) ∧ Hid (BsOwn wr w2.heap.size v (chop (padL image N) sz k))) (fun _ i _ => n - (intOf i).toNat)
  case atStart => exact ⟨0, Nat.zero_le _, rfl, Fr.refl _ _, BsOwn.nil _ _⟩
  case round =>
    obtain ⟨k, hk, rfl, HF3, HO⟩ := hrel
    by_cases hlt : k < n
    · obtain ⟨lo, hlo⟩ : ∃ lo, lo = k * sz := ⟨_, rfl⟩
      have hloi : (k : Int) * (sz : Int) = (lo : Int) := by rw [hlo, Int.natCast_mul]
      have hhii : ((k : Int) + 1) * (sz : Int) = (lo : Int) + (sz : Int) := by rw [Int.add_mul, hloi]; omega
      have hhi : lo + sz ≤ N := by
        have : (k + 1) * sz ≤ n * sz := Nat.mul_le_mul_right _ hlt
        rw [Nat.succ_mul] at this
        rw [HNN.out, hlo]
        exact this
      have HLO := Lib.hid hlo
      clear hlo
      go_wp2_with fail
      have hblk : Blk wr w.heap.size (bytesV (padL image N)).toArray 5 := HB2.out.frN HF3.out
      refine (clone_u8 (SlAt.sub hblk lo sz (N - lo) (by rw [padL_length]; exact hhi) (by omega)) (bytesV_one _) (by rw [bytesV_length]; simp; omega)).mono ?_
      rintro e w3 ⟨u, rfl, hf3, ho3⟩
      have hbl : (((padL image N).drop lo).take sz).length = sz := by have := padL_length image N; simp; omega
      rw [bytesV_length, hbl] at ho3
      obtain ⟨vs, hv1, hv2, hv3⟩ := HO.out.frN hf3
      have hu := ownsRow_base ho3 HF3.out.size
      obtain ⟨pu, cu, rfl⟩ := ownsRow_slice hu
      have HF4 : Hid (Fr NoF w2 w3) := HF3.out.transN hf3
      have HU := Lib.hid hu
      have HV1 := Lib.hid hv1
      have HV2 := Lib.hid hv2
      have HV3 := Lib.hid hv3
      have HBL := Lib.hid hbl
      clear hf3 ho3 hu hv1 hv2 hv3 hbl hblk
      go_wp2_with (at_builtin; refine wpList_append_one' _ rfl _ _ 73 rfl w2.heap.size 28 _ 24 Tryz.underlying73 info_bs rfl _ _ _ rfl HV1.out (.slice pu sz cu) rfl rfl (by rw [chop_length]; omega) (by decide) HF4.out.size ?_)
      intro v' w' ho hf
      have HF5 : Hid (Fr NoF w2 w') := HF4.out.transB (hf.own HV1.out)
      have HO5 : Hid (BsOwn w' w2.heap.size v' (chop (padL image N) sz (k + 1))) := by
        show BsOwn w' w2.heap.size v' (chop (padL image N) sz (k + 1))
        rw [chop_succ, ← HLO.out]
        exact BsOwn.snoc HV1.out HV2.out HV3.out (by rw [HBL.out]; exact HU.out) ho hf
      clear ho hf
      go_wp2_with fail
      go_roundw
      case rel => exact ⟨k + 1, by omega, by go_num, HF5, HO5⟩
      case measure => simp [intOf]; omega
    · have e : k = n := by omega
      subst e
      go_wp2_with fail
      go_ret
      refine ⟨_, rfl, HF2.out.transN HF3.out, ?_⟩
      unfold splitL
      rw [← HNN.out]
      exact HO.out.base HF2.out.size

/-- A slice of slices of bytes that is only read, its rows in F. -/
def BsAt (F : Nat → Prop) (w : World) (v : Value) (bs : List (List UInt8)) : Prop :=
  ∃ vs : List Value, SlAt F w v vs ∧ vs.length = bs.length ∧ ∀ (j : Nat) (u : Value) (b : List UInt8), vs[j]? = some u → bs[j]? = some b → SlAt F w u (bytesV b)
theorem BsAt.fr {F G : Nat → Prop} {w w' : World} {v : Value} {bs : List (List UInt8)} (h : BsAt F w v bs) (hf : Fr G w w') (ha : ∀ k, F k → ¬ G k) : BsAt F w' v bs := by
  obtain ⟨vs, h1, h2, h3⟩ := h
  exact ⟨vs, h1.fr hf ha, h2, fun j u b hu hb => (h3 j u b hu hb).fr hf ha⟩
theorem BsAt.frN {F : Nat → Prop} {w w' : World} {v : Value} {bs : List (List UInt8)} (h : BsAt F w v bs) (hf : Fr NoF w w') : BsAt F w' v bs := h.fr hf fun _ _ g => g
theorem BsAt.mono {F G : Nat → Prop} {w : World} {v : Value} {bs : List (List UInt8)} (h : BsAt F w v bs) (hF : ∀ k, F k → G k) : BsAt G w v bs := by
  obtain ⟨vs, h1, h2, h3⟩ := h
  exact ⟨vs, h1.mono hF, h2, fun j u b hu hb => (h3 j u b hu hb).mono hF⟩
theorem BsOwn.at {w : World} {B : Nat} {v : Value} {bs : List (List UInt8)} (h : BsOwn w B v bs) : BsAt (fun k => B ≤ k) w v bs := by
  obtain ⟨vs, h1, h2, h3⟩ := h
  exact ⟨vs, SlAt.owned h1, h2, fun j u b hu hb => SlAt.owned (h3 j u b hu hb)⟩

/-- The head of a slice. -/
theorem SlAt.take {F : Nat → Prop} {w : World} {p : Option Addr} {n c : Nat} {xs : List Value} (h : SlAt F w (.slice p n c) xs) {m : Nat} (hm : m ≤ n) : SlAt F w (.slice p m c) (xs.take m) := by
  obtain ⟨p', c', e, h0, hc⟩ := h
  injection e with e1 e2 e3
  subst e1; subst e2; subst e3
  have hl : (xs.take m).length = m := by rw [List.length_take]; omega
  refine ⟨p, c, by rw [hl], ⟨h0.1, by rw [hl]; omega⟩, fun hne => ?_⟩
  obtain ⟨b, o, rfl, hF, hb, hcc⟩ := hc (by intro e; subst e; simp at hne)
  refine ⟨b, o, rfl, hF, hb, fun j hj => ?_⟩
  rw [hl] at hj
  rw [hcc j (by omega)]
  simp

theorem SlAt.cap {F : Nat → Prop} {w : World} {p : Option Addr} {n c : Nat} {xs : List Value} (h : SlAt F w (.slice p n c) xs) : n = xs.length ∧ n ≤ c := by
  obtain ⟨p', c', e, h0, _⟩ := h
  injection e with e1 e2 e3
  subst e1; subst e2; subst e3
  exact ⟨rfl, h0.2⟩
theorem SlAt.shape {F : Nat → Prop} {w : World} {v : Value} {xs : List Value} (h : SlAt F w v xs) : ∃ p c, v = .slice p xs.length c := by
  obtain ⟨p', c', e, _⟩ := h
  exact ⟨p', c', e⟩

theorem bytesV_take (l : List UInt8) (m : Nat) : (bytesV l).take m = bytesV (l.take m) := by simp [bytesV]

theorem join_step (A b : List UInt8) (len : Nat) : (A ++ b).take len = A.take len ++ b.take (min b.length (len - (A.take len).length)) := by
  rw [List.take_append, List.length_take]
  congr 1
  rw [List.take_eq_take_iff]
  omega

set_option maxRecDepth 100000 in
/-- The first bytes of pieces. -/
theorem join_any {w : World} {F : Nat → Prop} {v : Value} {bs : List (List UInt8)} (hs : BsAt F w v bs) (len : Nat) (h1 : 1 ≤ len) (h2 : len ≤ 512) (hlen : len ≤ bs.flatten.length) (hbs : ∀ b, b ∈ bs → b.length ≤ 1000) (hbig : bs.length ≤ 1000) :
    Calls Tryz.prog 33 #[v, .int .i64 len] w fun e w' => ∃ v', e = .returned v' ∧ Fr NoF w w' ∧ w'.ownsRow w.heap.size 5 1 v' len (bytesV (bs.flatten.take len)) := by
  obtain ⟨vs, hv, hvl, hvs⟩ := hs
  rw [← hvl] at hbig
  obtain ⟨p, cap, rfl⟩ := hv.shape
  have HV := Lib.hid hv
  have HVS := Lib.hid hvs
  have HVL := Lib.hid hvl
  have HLEN := Lib.hid hlen
  have HBS := Lib.hid hbs
  clear hv hvs hvl hlen hbs
  go_enter Tryz.func33, Tryz.ntmps33
  go_wp2_with fail
  go_loopw [5, 16] (fun o i wr => ∃ k : Nat, k ≤ vs.length ∧ i = .int .i64 k ∧ Hid (Fr NoF w wr) ∧ Hid (wr.ownsRow w.heap.size 5 1 o (((bs.take k).flatten).take len).length (bytesV (((bs.take k).flatten).take len)))) (fun _ i _ => vs.length - (intOf i).toNat)
  case atStart => exact ⟨0, Nat.zero_le _, rfl, Fr.refl _ _, by simp [bytesV, World.ownsRow, Hid]⟩
  case round =>
    obtain ⟨k, hk, rfl, HF, HO⟩ := hrel
    by_cases hlt : k < vs.length
    · have hv' := HV.out.frN HF.out
      obtain ⟨g, o, rfl, hck⟩ : ∃ g o, p = some ⟨g, o, none⟩ ∧ wr.cell? ⟨g, o + k, none⟩ = some vs[k] := by
        obtain ⟨_, _, e, _, hc⟩ := hv'
        injection e with e1 _ _
        subst e1
        obtain ⟨g, o, rfl, _, _, hc⟩ := hc (by intro h; subst h; simp at hlt)
        exact ⟨g, o, rfl, hc k hlt⟩
      clear hv'
      have hltb : k < bs.length := by rw [← HVL.out]; exact hlt
      have hu : SlAt F wr vs[k] (bytesV bs[k]) := (HVS.out k vs[k] bs[k] (List.getElem?_eq_getElem hlt) (List.getElem?_eq_getElem hltb)).frN HF.out
      obtain ⟨pu, cu, eu⟩ := hu.shape
      rw [eu] at hu hck
      rw [bytesV_length] at hu hck
      have hub : bs[k].length ≤ 1000 := HBS.out _ (List.getElem_mem hltb)
      have hucap := hu.cap.2
      obtain ⟨b, hb⟩ : ∃ b, b = bs[k] := ⟨_, rfl⟩
      rw [← hb] at hu hck hub hucap
      have hstep := join_step ((bs.take k).flatten) b len
      have hnext : ((bs.take (k + 1)).flatten) = (bs.take k).flatten ++ b := by
        rw [List.take_succ_eq_append_getElem hltb, List.flatten_append, hb]; simp
      rw [← hnext] at hstep
      have hAl : (((bs.take k).flatten).take len).length ≤ len := by rw [List.length_take]; omega
      have HB := Lib.hid hb
      have HSTEP := Lib.hid hstep
      have HU := Lib.hid hu
      clear hb hstep hnext hu eu
      obtain ⟨A, hA⟩ : ∃ A, A = ((bs.take k).flatten).take len := ⟨_, rfl⟩
      rw [← hA] at hAl HO HSTEP
      have HA := Lib.hid hA
      clear hA
      obtain ⟨m, hm⟩ : ∃ m, m = min b.length (len - A.length) := ⟨_, rfl⟩
      have hmi : min (b.length : Int) ((len : Int) - (A.length : Int)) = (m : Int) := by omega
      have hml : m ≤ b.length := by omega
      rw [← hm] at HSTEP
      clear hm
      obtain ⟨po, co, rfl⟩ := ownsRow_slice HO.out
      have hbl : (b.take m).length = m := by rw [List.length_take]; omega
      have HT : Hid (SlAt F wr (.slice pu m cu) (bytesV (b.take m))) := by
        rw [← bytesV_take]; exact HU.out.take hml
      have hs := HF.out.size
      go_wp2_with (at_builtin; refine wpList_append_sl _ rfl _ _ 28 rfl w.heap.size 5 _ 1 Tryz.underlying28 cinfo_u8 rfl _ _ _ rfl HO.out F _ (bytesV (b.take m)) rfl HT.out (bytesV_one _) (by rw [bytesV_length, hbl]; omega) (by decide) hs ?_)
      intro v' w' ho hf
      have HF5 : Hid (Fr NoF w w') := HF.out.trans hf (fun i hi g => by omega)
      have HO5 : Hid (w'.ownsRow w.heap.size 5 1 v' (((bs.take (k + 1)).flatten).take len).length (bytesV (((bs.take (k + 1)).flatten).take len))) := by
        show w'.ownsRow w.heap.size 5 1 v' _ _
        rw [HSTEP.out, List.length_append, show bytesV (A ++ b.take m) = bytesV A ++ bytesV (b.take m) from by simp [bytesV]]
        rw [bytesV_length] at ho
        exact ho
      clear ho hf
      go_wp2_with fail
      go_roundw
      case rel => exact ⟨k + 1, by omega, by go_num, HF5, HO5⟩
      case measure => simp [intOf]; omega
    · have e : k = bs.length := by rw [← HVL.out]; omega
      subst e
      have hl : (((bs.take bs.length).flatten).take len).length = len := by
        rw [List.take_length, List.length_take]
        have := HLEN.out
        omega
      rw [hl, List.take_length] at HO
      obtain ⟨po, co, rfl⟩ := ownsRow_slice HO.out
      go_wp2_with fail
      go_ret
      exact ⟨_, rfl, HF.out, HO.out⟩
end Go.Proofs.YtamdmkjejpkbiaaGreatDoor
