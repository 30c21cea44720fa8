/- Decoders, heads, matrices as things that lie apart. -/
import Derived.Test.YtamdmkjejpkbiaaGreatDoorAwake
import Derived.Test.YtamdmkjejpkbiaaGreatDoorOwnH
namespace Go.Proofs.YtamdmkjejpkbiaaGreatDoor
open Go Go.RowKit Go.Proofs

/-- Four cells of one block turn. -/
theorem Fr.set4 (w : World) (b : Nat) (v0 v1 v2 v3 : Value) : Fr (fun i => i = b) w ((((w.setCell ⟨b, 0, none⟩ v0).setCell ⟨b, 1, none⟩ v1).setCell ⟨b, 2, none⟩ v2).setCell ⟨b, 3, none⟩ v3) :=
  ((((Fr.refl (fun i => i = b) w).setCell (p := ⟨b, 0, none⟩) (fun _ => rfl) v0).setCell (p := ⟨b, 1, none⟩) (fun _ => rfl) v1).setCell (p := ⟨b, 2, none⟩) (fun _ => rfl) v2).setCell (p := ⟨b, 3, none⟩) (fun _ => rfl) v3
/-- A decoder, a head, a matrix. -/
def decH (b : Nat) (p : Par) (M : Mat) (t : Nat) : Hp := fun w F => DecRep w F b p M t
def headH (b : Nat) (p : Par) (image : List UInt8) : Hp := fun w F => HeadRep w F b p image
def matH (bm n sz : Nat) (M : Mat) : Hp := fun w F => MatRep w F bm n sz M
theorem decH_stb (b : Nat) (p : Par) (M : Mat) (t : Nat) : Stb (decH b p M t) := ⟨fun h hf ha => DecRep.fr h hf ha, fun h => DecRep.inF h, fun h hF hG => DecRep.mono h hF hG⟩
theorem headH_stb (b : Nat) (p : Par) (image : List UInt8) : Stb (headH b p image) := ⟨fun h hf ha => HeadRep.fr h hf ha, fun h => HeadRep.inF h, fun h hF hG => HeadRep.mono h hF hG⟩
theorem matH_stb (bm n sz : Nat) (M : Mat) : Stb (matH bm n sz M) := ⟨fun h hf ha => MatRep.fr h hf ha, fun h => MatRep.inF h, fun h hF hG => MatRep.mono h hF hG⟩

section
variable {w w1 : World} {b t : Nat} {p : Par} {M : Mat} {S : Hp}
/-- What a decoder that stands first among new things answers. -/
theorem New.dec (h : New w (Sep (decH b p M t) S) w1) : ∃ F, DecRep w1 F b p M t ∧ ∀ k, F k → w.heap.size ≤ k := by
  obtain ⟨F1, h1, h2⟩ := h.own.left
  exact ⟨F1, h2, fun k hk => (upNo' (h1 k hk)).1⟩
theorem New.says (h : New w (Sep (decH b p M t) S) w1) (he : Env w) (id : Nat) (hid : id < 4294967296) :
    Calls Tryz.prog 16 #[.pointer (some ⟨b, 0, none⟩), .int .u32 id] w1 fun e w' => e = .returned (.bool (Go.Proofs.YtamdmkjejpkbiaaGreatDoor.says M (rowN p id) [])) ∧ Fr NoF w1 w' := by
  obtain ⟨F, hd, _⟩ := h.dec
  exact dec_says hd (he.frN h.fr) id hid
theorem New.needs (h : New w (Sep (decH b p M t) S) w1) :
    Calls Tryz.prog 12 #[.pointer (some ⟨b, 0, none⟩)] w1 fun e w' => e = .returned (.int .i64 (p.n - rank M : Nat)) ∧ Fr NoF w1 w' := by
  obtain ⟨F, hd, _⟩ := h.dec
  exact dec_needs hd
theorem New.taken (h : New w (Sep (decH b p M t) S) w1) :
    Calls Tryz.prog 14 #[.pointer (some ⟨b, 0, none⟩)] w1 fun e w' => e = .returned (.int .i64 t) ∧ w1 = w' := by
  obtain ⟨F, hd, _⟩ := h.dec
  exact dec_taken hd
theorem New.take (h : New w (Sep (decH b p M t) S) w1) (hS : Stb S) (he : Env w) (id : Nat) (hid : id < 4294967296) {G : Nat → Prop} {vd : Value} {d : List UInt8} (hd : SlAt G w1 vd (bytesV d)) (hl : d.length = p.sz) :
    Calls Tryz.prog 13 #[.pointer (some ⟨b, 0, none⟩), .int .u32 id, vd] w1 fun e w' => e = .returned (.bool (Go.Proofs.YtamdmkjejpkbiaaGreatDoor.says M (rowN p id) d)) ∧
      New w (Sep (decH b p (add M (rowN p id) d) (t + if Go.Proofs.YtamdmkjejpkbiaaGreatDoor.says M (rowN p id) d then 1 else 0)) S) w' := by
  obtain ⟨F, h1, h2, h3⟩ := h.first hS
  refine (dec_take h1 (he.frN h.fr) id hid hd hl).mono ?_
  rintro e w' ⟨rfl, hf, hr⟩
  exact ⟨rfl, h3 _ (decH_stb _ _ _ _) w' hf hr⟩
theorem New.takeBad (h : New w (Sep (decH b p M t) S) w1) (id : Nat) (hid : id < 4294967296) {pd : Option Addr} {l c : Nat} (hl : l ≠ p.sz) :
    Calls Tryz.prog 13 #[.pointer (some ⟨b, 0, none⟩), .int .u32 id, .slice pd l c] w1 fun e w' => e = .returned (.bool false) ∧ Fr NoF w1 w' := by
  obtain ⟨F, hd, _⟩ := h.dec
  exact dec_take_bad hd id hid hl
/-- The image: none yet. -/
theorem New.imageFew (h : New w (Sep (decH b p M t) S) w1) (hr : rank M ≠ p.n) (len : Int) :
    Calls Tryz.prog 15 #[.pointer (some ⟨b, 0, none⟩), .int .i64 len] w1 fun e w' => e = .returned (.tuple #[.slice none 0 0, .bool false]) ∧ Fr NoF w1 w' := by
  obtain ⟨F, hd, _⟩ := h.dec
  exact dec_image_few hd hr len
theorem New.image (h : New w (Sep (decH b p M t) S) w1) (hS : Stb S) (hr : rank M = p.n) {image : List UInt8} (hd : DataOk p.sz (allPieces p image) M) (h1 : 1 ≤ image.length) (h2 : image.length ≤ 512) (hc : countN image.length p.sz = p.K) :
    Calls Tryz.prog 15 #[.pointer (some ⟨b, 0, none⟩), .int .i64 image.length] w1 fun e w' => ∃ v', e = .returned (.tuple #[v', .bool true]) ∧ New w (Sep (decH b p M t) S) w' ∧ w'.ownsRow w1.heap.size 5 1 v' image.length (bytesV image) := by
  obtain ⟨F, k1, k2, k3⟩ := h.first hS
  refine (dec_image k1 h.g hr hd h1 h2 hc).mono ?_
  rintro e w' ⟨v', rfl, hf, hr, ho⟩
  have hFb : F b := by
    obtain ⟨_, _, _, _, hb, _⟩ := k1
    exact hb
  exact ⟨v', rfl, k3 _ (decH_stb _ _ _ _) w' (hf.mono fun k _ hk => by subst hk; exact hFb) hr, ho⟩
/-- The image, and what turns. -/
theorem New.image2 (h : New w (Sep (decH b p M t) S) w1) (hS : Stb S) (hr : rank M = p.n) {image : List UInt8} (hd : DataOk p.sz (allPieces p image) M) (h1 : 1 ≤ image.length) (h2 : image.length ≤ 512) (hc : countN image.length p.sz = p.K) :
    Calls Tryz.prog 15 #[.pointer (some ⟨b, 0, none⟩), .int .i64 image.length] w1 fun e w' => ∃ v', e = .returned (.tuple #[v', .bool true]) ∧ New w (Sep (decH b p M t) S) w' ∧ w'.ownsRow w1.heap.size 5 1 v' image.length (bytesV image) ∧ Fr (fun k => k = b) w1 w' ∧ b < w1.heap.size := by
  obtain ⟨F, k1, k2, k3⟩ := h.first hS
  have hFb : F b ∧ b < w1.heap.size := by
    obtain ⟨_, _, _, hb, hF, _⟩ := k1
    exact ⟨hF, hb.lt⟩
  refine (dec_image k1 h.g hr hd h1 h2 hc).mono ?_
  rintro e w' ⟨v', rfl, hf, hr, ho⟩
  exact ⟨v', rfl, k3 _ (decH_stb _ _ _ _) w' (hf.mono fun k _ hk => by subst hk; exact hFb.1) hr, ho, hf, hFb.2⟩
/-- An image of another length. -/
theorem New.imageLen (h : New w (Sep (decH b p M t) S) w1) (hr : rank M = p.n) (len : Int) {c : Nat} (hct : ∀ w, Calls Tryz.prog 29 #[.int .i64 len, .int .i64 p.sz] w fun e w' => e = .returned (.int .i64 c) ∧ w = w') (hc : c ≠ p.K) :
    Calls Tryz.prog 15 #[.pointer (some ⟨b, 0, none⟩), .int .i64 len] w1 fun e w' => e = .returned (.tuple #[.slice none 0 0, .bool false]) ∧ Fr NoF w1 w' := by
  obtain ⟨F, hd, _⟩ := h.dec
  exact dec_image_len hd hr len hct hc
/-- A symbol is taken, at a world in which more has been made. -/
theorem New.take2 (h : New w (Sep (decH b p M t) S) w1) (hS : Stb S) (he : Env w) {w2 : World} (h2 : Fr NoF w1 w2) (id : Nat) (hid : id < 4294967296) {G : Nat → Prop} {vd : Value} {d : List UInt8} (hd : SlAt G w2 vd (bytesV d)) (hl : d.length = p.sz) :
    Calls Tryz.prog 13 #[.pointer (some ⟨b, 0, none⟩), .int .u32 id, vd] w2 fun e w' => e = .returned (.bool (Go.Proofs.YtamdmkjejpkbiaaGreatDoor.says M (rowN p id) d)) ∧
      New w (Sep (decH b p (add M (rowN p id) d) (t + if Go.Proofs.YtamdmkjejpkbiaaGreatDoor.says M (rowN p id) d then 1 else 0)) S) w' ∧ Fr (upF NoF w w1) w2 w' := by
  obtain ⟨F, k1, k2, k3⟩ := h.first2 (decH_stb _ _ _ _) hS h2
  refine (dec_take k1 ((he.frN h.fr).frN h2) id hid hd hl).mono ?_
  rintro e w' ⟨rfl, hf, hr⟩
  exact ⟨rfl, k3 _ (decH_stb _ _ _ _) w' hf hr⟩
end

section
variable {w w1 : World} {b : Nat} {p : Par} {image : List UInt8} {S : Hp}
/-- A symbol, at a world in which more has been made. -/
theorem New.symbol2 (h : New w (Sep (headH b p image) S) w1) (hS : Stb S) {w2 : World} (h2 : Fr NoF w1 w2) (id : Nat) (hid : id < 4294967296) :
    Calls Tryz.prog 18 #[.pointer (some ⟨b, 0, none⟩), .int .u32 id] w2 fun e w' => ∃ g, e = .returned (.slice (some ⟨g, 0, none⟩) p.sz p.sz) ∧ (New w (Sep (headH b p image) S) w' ∧ Fr (upF NoF w w1) w2 w') ∧ w2.heap.size ≤ g ∧ Blk w' g (bytesV (symbolL p image id)).toArray 5 := by
  obtain ⟨F, k1, k2, k3⟩ := h.first2 (headH_stb _ _ _) hS h2
  have hFb : F b := by
    obtain ⟨_, _, _, _, hb, _⟩ := k1
    exact hb
  refine (head_symbol k1 (Nat.le_trans h.g h2.size) id hid).mono ?_
  rintro e w' ⟨g, rfl, hf, hr, hg, hb⟩
  exact ⟨g, rfl, k3 _ (headH_stb _ _ _) w' (hf.mono fun k _ hk => by subst hk; exact hFb) hr, hg, hb⟩
/-- A symbol of a head that stands first. -/
theorem New.symbol (h : New w (Sep (headH b p image) S) w1) (hS : Stb S) (id : Nat) (hid : id < 4294967296) :
    Calls Tryz.prog 18 #[.pointer (some ⟨b, 0, none⟩), .int .u32 id] w1 fun e w' => ∃ g, e = .returned (.slice (some ⟨g, 0, none⟩) p.sz p.sz) ∧ New w (Sep (headH b p image) S) w' ∧ w1.heap.size ≤ g ∧ Blk w' g (bytesV (symbolL p image id)).toArray 5 := by
  obtain ⟨F, k1, k2, k3⟩ := h.first hS
  have hFb : F b := by
    obtain ⟨_, _, _, _, hb, _⟩ := k1
    exact hb
  refine (head_symbol k1 h.g id hid).mono ?_
  rintro e w' ⟨g, rfl, hf, hr, hg, hb⟩
  exact ⟨g, rfl, k3 _ (headH_stb _ _ _) w' (hf.mono fun k _ hk => by subst hk; exact hFb) hr, hg, hb⟩
end

section
variable {w w1 : World} {bm n sz : Nat} {M : Mat} {S : Hp}
/-- A row that is added to a matrix that stands first. -/
theorem New.madd (h : New w (Sep (matH bm n sz M) S) w1) (hS : Stb S) (he : Env w) {bv bw x : Nat} (hv : VecRep w1 bv bw n x) (hI : Inv n M) (hx : x < 2 ^ n) {G : Nat → Prop} {vd : Value} {d : List UInt8} (hd : SlAt G w1 vd (bytesV d)) (hl : d.length = sz) :
    Calls Tryz.prog 21 #[.pointer (some ⟨bm, 0, none⟩), .pointer (some ⟨bv, 0, none⟩), vd] w1 fun e w' => e = .returned (.bool (Go.Proofs.YtamdmkjejpkbiaaGreatDoor.says M x d)) ∧ New w (Sep (matH bm n sz (add M x d)) S) w' := by
  obtain ⟨F, h1, h2, h3⟩ := h.first hS
  refine (mat_add h1 hv (he.frN h.fr) hd hl (fun hs => hI.hfree hx hs)).mono ?_
  rintro e w' ⟨rfl, _, hf, hr⟩
  exact ⟨rfl, h3 _ (matH_stb _ _ _ _) w' hf hr⟩
theorem New.madd2 (h : New w (Sep (matH bm n sz M) S) w1) (hS : Stb S) (he : Env w) {w2 : World} (h2 : Fr NoF w1 w2) {bv bw x : Nat} (hv : VecRep w2 bv bw n x) (hI : Inv n M) (hx : x < 2 ^ n) {G : Nat → Prop} {vd : Value} {d : List UInt8} (hd : SlAt G w2 vd (bytesV d)) (hl : d.length = sz) :
    Calls Tryz.prog 21 #[.pointer (some ⟨bm, 0, none⟩), .pointer (some ⟨bv, 0, none⟩), vd] w2 fun e w' => e = .returned (.bool (Go.Proofs.YtamdmkjejpkbiaaGreatDoor.says M x d)) ∧ New w (Sep (matH bm n sz (add M x d)) S) w' ∧ Fr (upF NoF w w1) w2 w' := by
  obtain ⟨F, k1, k2, k3⟩ := h.first2 (matH_stb _ _ _ _) hS h2
  refine (mat_add k1 hv ((he.frN h.fr).frN h2) hd hl (fun hs => hI.hfree hx hs)).mono ?_
  rintro e w' ⟨rfl, _, hf, hr⟩
  exact ⟨rfl, k3 _ (matH_stb _ _ _ _) w' hf hr⟩
theorem New.mrank (h : New w (Sep (matH bm n sz M) S) w1) : Calls Tryz.prog 23 #[.pointer (some ⟨bm, 0, none⟩)] w1 fun e w' => e = .returned (.int .i64 (rank M : Nat)) ∧ w1 = w' := by
  obtain ⟨F1, h1, h2⟩ := h.own.left
  exact mat_rank h2
theorem New.mfull (h : New w (Sep (matH bm n sz M) S) w1) : Calls Tryz.prog 24 #[.pointer (some ⟨bm, 0, none⟩)] w1 fun e w' => e = .returned (.bool (decide (rank M = n))) ∧ Fr NoF w1 w' := by
  obtain ⟨F1, h1, h2⟩ := h.own.left
  exact mat_full h2
end

/-- One piece more than there are. -/
theorem count_more {len sz K : Nat} (h : countN len sz = K) (hK : 1 ≤ K) : countN (len + sz) sz ≠ K := by
  unfold countN at h ⊢
  split at h
  · rename_i hc
    have e : (len + sz + sz - 1) / sz = (len + sz - 1) / sz + 1 := by
      rw [show len + sz + sz - 1 = (len + sz - 1) + sz by omega, Nat.add_div_right _ (by omega)]
    split
    · omega
    · omega
  · omega

theorem DecSt.of {p : Par} {M : Mat} {ids ids' : Nat → Prop} (h : DecSt p M ids) (he : ∀ i, ids i ↔ ids' i) : DecSt p M ids' :=
  Spans.congr h fun x => by
    constructor
    · rintro (h | ⟨i, h1, h2⟩)
      · exact .inl h
      · exact .inr ⟨i, (he i).1 h1, h2⟩
    · rintro (h | ⟨i, h1, h2⟩)
      · exact .inl h
      · exact .inr ⟨i, (he i).2 h1, h2⟩

/-- A symbol's data as a slice. -/
theorem sym_sl {w : World} {g : Nat} {q : Par} {img : List UInt8} {id : Nat} (h : Blk w g (bytesV (symbolL q img id)).toArray 5) (hz : q.sz ≤ 16) : SlAt AllF w (.slice (some ⟨g, 0, none⟩) q.sz q.sz) (bytesV (symbolL q img id)) := by
  have := (SlAt.owned (h.owned (Nat.le_refl _) (by rw [symbolL_length]; omega))).mono (G := AllF) (fun _ _ => trivial)
  rw [symbolL_length] at this
  exact this
/-- Rows of bits, a slice of pointers to them. -/
def rowsH (n : Nat) (f : Nat → Nat) (v : Value) (gs : List (Nat × Nat)) : Hp := fun w F => InF F w ∧ (∀ k, v.ownBlock = some k → F k) ∧ w.ownsRow 0 52 1 v gs.length (ptrs gs) ∧ ∀ (j : Nat) (g : Nat × Nat), gs[j]? = some g → VecRep w g.1 g.2 n (f j) ∧ F g.1 ∧ F g.2
theorem rowsH_stb (n : Nat) (f : Nat → Nat) (v : Value) (gs : List (Nat × Nat)) : Stb (rowsH n f v gs) where
  fr := fun ⟨h1, h2, ⟨h3, h4⟩, h5⟩ hf ha => by
    refine ⟨h1.le hf.size, h2, ⟨h3, ?_⟩, fun j g hg => ?_⟩
    · rcases h4 with h4 | ⟨g, cap, cur, rfl, hb, hg, r⟩
      · exact .inl h4
      · exact .inr ⟨g, cap, cur, rfl, hb, Blk.fr (c := cur) (T := 52) hg hf (fun h => ha g (h2 g rfl) h), r⟩
    · obtain ⟨a, b, c⟩ := h5 j g hg
      exact ⟨a.fr hf (ha _ b) (ha _ c), b, c⟩
  inF := fun h => h.1
  mono := fun ⟨_, h2, h3, h4⟩ hm hg => ⟨hg, fun k hk => hm k (h2 k hk), h3, fun j g hgj => by
    obtain ⟨a, b, c⟩ := h4 j g hgj
    exact ⟨a, hm _ b, hm _ c⟩⟩
theorem rowsH.get {w : World} {F : Nat → Prop} {n : Nat} {f : Nat → Nat} {p : Option Addr} {m c : Nat} {gs : List (Nat × Nat)} (h : rowsH n f (.slice p m c) gs w F) {k : Nat} (hk : k < gs.length) :
    ∃ g, p = some ⟨g, 0, none⟩ ∧ w.cell? ⟨g, k, none⟩ = some (.pointer (some ⟨gs[k].1, 0, none⟩)) ∧ VecRep w gs[k].1 gs[k].2 n (f k) := by
  obtain ⟨_, _, h3, h4⟩ := h
  obtain ⟨g, c', e, _, _, hc⟩ := own_cells h3 (by omega)
  injection e with e1 _ _
  subst e1
  exact ⟨g, rfl, (hc k _ (by simp [ptrs, hk])).1, (h4 k _ (List.getElem?_eq_getElem hk)).1⟩
theorem rowsH.new {w w' : World} {n : Nat} {f : Nat → Nat} {v : Value} {gs : List (Nat × Nat)} (hg : gl ≤ w.heap.size) (hf : Fr NoF w w') (h1 : w'.ownsRow w.heap.size 52 1 v gs.length (ptrs gs)) (h2 : RowsRep w' w.heap.size n f gs) : rowsH n f v gs w' (upF NoF w w') := by
  refine ⟨(InF.no w).up hg hf.size, fun k hk => .inr ?_, ownsRow_base h1 (Nat.zero_le _), fun j g hgj => ?_⟩
  · have := h1.lt k hk
    exact ⟨this.1, this.2⟩
  · obtain ⟨a, b, c⟩ := h2 j g hgj
    exact ⟨a, .inr ⟨b, a.ltv⟩, .inr ⟨c, a.ltw⟩⟩

/-- Nothing. -/
def noH : Hp := fun w F => InF F w
theorem noH_stb : Stb noH := ⟨fun h hf _ => h.le hf.size, fun h => h, fun _ _ hg => hg⟩
theorem Sep.alone {R : Hp} {w : World} {F : Nat → Prop} (hR : Stb R) (h : R w F) : Sep R noH w F := ⟨hR.inF h, F, NoF, fun _ h => h, fun _ h => h.elim, fun _ _ g => g, h, InF.no w⟩
theorem New.alone {w w1 : World} {R : Hp} (h : New w R w1) (hR : Stb R) : New w (Sep R noH) w1 := h.map fun F hr => ⟨hR.inF hr, F, NoF, fun _ h => h, fun _ h => h.elim, fun _ _ g => g, hr, InF.no w1⟩
end Go.Proofs.YtamdmkjejpkbiaaGreatDoor
