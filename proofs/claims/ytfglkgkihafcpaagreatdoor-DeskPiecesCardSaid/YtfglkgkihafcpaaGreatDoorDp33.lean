/- Part 33 of the proof: IKn3 StrBld. -/
import Derived.Test.YtfglkgkihafcpaaGreatDoorDp01
import Derived.Test.YtfglkgkihafcpaaGreatDoorDp03
import Derived.Test.YtfglkgkihafcpaaGreatDoorDp31
import Derived.Test.YtfglkgkihafcpaaGreatDoorDp32
import Derived.Shelf.Strings.BuilderK
import Derived.Lib.OthersKept
set_option linter.unusedVariables false
set_option linter.unusedSimpArgs false
namespace Go.Proofs.YtfglkgkihafcpaaGreatDoor
open Go.RowKit Pl Go.Maps
def IStay (F : Nat → Prop) (w : World) (xb n : Nat) (es : List E) (w' : World) : Prop := IxK (fun k => F k ∨ w.heap.size ≤ k) w' xb n es ∧ Keep F w w'
theorem IStay.keep {F : Nat → Prop} {w w1 w2 : World} {xb n : Nat} {es : List E} (h : IStay F w xb n es w1) (k : Keep Nb w1 w2) : IStay F w xb n es w2 :=
 ⟨h.1.keep k (fun _ _ e => e), h.2.trans' k (fun _ _ e => e) (fun _ _ e => e.elim)⟩
theorem IxM.learn {F Fg Fb Fc Fn : Nat → Prop} {w w' : World} {xb gb bb n : Nat} {es fs : List E} {r2 r3 r4 s2 s3 s4 : Value} {i : Nat} {v : Value} (h : IxM Fg Fb Fc w xb gb bb n es fs r2 r3 r4) (hF : F xb ∧ (∀ k, Fg k → F k) ∧ (∀ k, Fb k → F k) ∧ (∀ k, Fc k → F k)) (k : Keep Nb w w')
  (hr : ([.pointer (some ⟨gb, 0, none⟩), .pointer (some ⟨bb, 0, none⟩), r2, r3, r4] : List Value).set i v = [.pointer (some ⟨gb, 0, none⟩), .pointer (some ⟨bb, 0, none⟩), s2, s3, s4]) (hi : i < 5) (hn : ∀ j, Fn j → w.heap.size ≤ j ∧ j < w'.heap.size)
  (hk : KnB (fun j => Fc j ∨ Fn j) (w'.setCell ⟨xb, i, none⟩ v) n es gb s2 s3 s4) : IStay F w xb n es (w'.setCell ⟨xb, i, none⟩ v) := by
 have z := k.size
 have ks : Keep (fun j => j = xb) w' (w'.setCell ⟨xb, i, none⟩ v) := (Keep.refl (fun j => j = xb) w').setCell (.inl rfl) _
 have zs := ks.size
 have hxl := h.row.lt
 have hrow := (h.row.keep k (fun e => e)).set (i := i) (by simpa using hi) v
 rw [hr] at hrow
 refine ⟨⟨Fg, Fb, fun j => Fc j ∨ Fn j, gb, bb, fs, s2, s3, s4, ⟨hrow, (h.gr.keep k (fun _ _ e => e)).keep ks (fun j h1 h2 => (h.g j h1).1 h2), (h.brs.keep k (fun _ _ e => e)).keep ks (fun j h1 h2 => (h.br j h1).1 h2), h.mem, h.len, hk, fun j hj => ?_, fun j hj => ?_, fun j hj => ?_⟩, .inl hF.1, fun j hj => .inl (hF.2.1 j hj), fun j hj => .inl (hF.2.2.1 j hj), fun j hj => ?_⟩, (k.of_nb (F := F)).trans' ks (fun _ _ e => e) (fun j _ e => by rw [e]; exact hF.1)⟩
 ·have := h.g j hj
  exact ⟨this.1, this.2.1, fun e => by
   rcases e with e | e
   ·exact this.2.2.1 e
   ·have := (hn j e).1; omega, by omega⟩
 ·have := h.br j hj
  exact ⟨this.1, fun e => by
   rcases e with e | e
   ·exact this.2.1 e
   ·have := (hn j e).1; omega, by omega⟩
 ·rcases hj with hj | hj
  ·have := h.k j hj; exact ⟨this.1, by omega⟩
  ·have := hn j hj; exact ⟨by omega, by omega⟩
 ·rcases hj with hj | hj
  ·exact .inl (hF.2.2.2 j hj)
  ·exact .inr (hn j hj).1
theorem IxM.stays {F Fg Fb Fc : Nat → Prop} {w : World} {xb gb bb n : Nat} {es fs : List E} {r2 r3 r4 : Value} (h : IxM Fg Fb Fc w xb gb bb n es fs r2 r3 r4) (hF : F xb ∧ (∀ k, Fg k → F k) ∧ (∀ k, Fb k → F k) ∧ (∀ k, Fc k → F k)) : IStay F w xb n es w :=
 ⟨⟨Fg, Fb, Fc, gb, bb, fs, r2, r3, r4, h, .inl hF.1, fun j hj => .inl (hF.2.1 j hj), fun j hj => .inl (hF.2.2.1 j hj), fun j hj => .inl (hF.2.2.2 j hj)⟩, Keep.refl _ _⟩
def IBlocksPost (F : Nat → Prop) (w : World) (xb n : Nat) (es : List E) (e : Ending) (w' : World) : Prop :=
 ∃ Y, e = .returned (.pointer (some ⟨Y, 0, none⟩)) ∧ BkAt (fun _ => True) w' Y n es ∧ IStay F w xb n es w'
set_option maxRecDepth 100000 in
set_option maxHeartbeats 1000000 in
theorem iblocksK_any (F : Nat → Prop) (w : World) (xb n : Nat) (es : List E) (hX : IxK F w xb n es) (hI : IOk n es) :
  Calls Tryz.prog 135 #[.pointer (some ⟨xb, 0, none⟩)] w (IBlocksPost F w xb n es) := by
 obtain ⟨Fg, Fb, Fc, gb, bb, fs, r2, r3, r4, hM, hF⟩ := hX
 have c0 := hM.row.cell (i := 0) rfl
 have c2 := hM.row.cell (i := 2) rfl
 have f2 := hM.row.frozen 2 none
 have HM := Lib.hid hM
 have HF := Lib.hid hF
 have HI := Lib.hid hI
 rcases hM.kn.b with rfl | ⟨Y, rfl, hB⟩
 ·clear hM hF hI
  go_enter Tryz.func135, Tryz.ntmps135
  go_wp2_with fail
  refine (bkof_any Fg w gb n es HM.out.gr (fun k h => (HM.out.g k h).2.2.2) HI.out.n40 HI.out.le HI.out.ok (fun X Y ob lb mb => deep_any w.heap.size X Y ob lb gb n (.map (some mb)) es Fg (fun k h => (HM.out.g k h).2.2.2) HI.out.n40 HI.out.le HI.out.ok.over HI.out.ok.ne n)).mono ?_
  rintro e w1 ⟨Y, mb, pc, cc, po, co, rows, ps, cs, M, G, rfl, b1, b2, b3, b4, b5, b6, b7, b8, hg, hy, hmb, hk⟩
  have hB : BkAt (fun k => w.heap.size ≤ k ∧ k < w1.heap.size) w1 Y n es := (BkAt.tight (F := fun k => w.heap.size ≤ k) ⟨_, pc, cc, po, co, rows, ps, cs, b1, b2, b3, b4, b5.mono hg, b6.mono hg, hy⟩)
  have HB := Lib.hid hB
  have HK := Lib.hid hk
  have hX1 := HM.out.row.keep hk (fun e => e)
  have d2 := hX1.cell (i := 2) rfl
  have g2 := hX1.frozen 2 none
  clear hB hk hX1 b1 b2 b3 b4 b5 b6 b7 b8 hg hy hmb c0 c2 f2
  have ks : Keep (fun j => j = xb) w1 (w1.setCell ⟨xb, 2, none⟩ (.pointer (some ⟨Y, 0, none⟩))) := (Keep.refl (fun j => j = xb) w1).setCell (.inl rfl) _
  have KS := Lib.hid ks
  clear ks
  have HR : Hid ((w1.setCell ⟨xb, 2, none⟩ (.pointer (some ⟨Y, 0, none⟩))).cell? ⟨xb, 2, none⟩ = some (.pointer (some ⟨Y, 0, none⟩))) := Lib.hid (((HM.out.row.keep HK.out (fun e => e)).set (i := 2) (by simp) _).cell (i := 2) rfl)
  have r2 := HR.out
  go_wp2_with fail
  go_ret
  have hx := HM.out.row.lt
  have hB2 := HB.out.keep KS.out (fun k h1 h2 => by omega)
  refine ⟨Y, rfl, hB2.mono (fun _ _ => trivial), HM.out.learn (Fn := fun k => w.heap.size ≤ k ∧ k < w1.heap.size) HF.out HK.out rfl (by omega) (fun j hj => hj) ⟨.inr ⟨Y, rfl, hB2.mono (fun k hk => .inr hk)⟩, ?_, ?_⟩⟩
  ·rcases HM.out.kn.c with e | ⟨cv, e, hc⟩
   ·exact .inl e
   ·exact .inr ⟨cv, e, ((hc.keep HK.out (fun _ _ e => e)).keep KS.out (fun k h1 h2 => (HM.out.k k h1).1 h2)).mono (fun _ h => .inl h)⟩
  ·rcases HM.out.kn.p with e | ⟨cv, e, hc⟩
   ·exact .inl e
   ·exact .inr ⟨cv, e, ((hc.keep HK.out (fun _ _ e => e)).keep KS.out (fun k h1 h2 => (HM.out.k k h1).1 h2)).mono (fun _ h => .inl h)⟩
 ·have HB := Lib.hid hB
  clear hM hF hI hB
  go_enter Tryz.func135, Tryz.ntmps135
  go_wp2_with fail
  go_ret
  exact ⟨Y, rfl, HB.out.mono (fun _ _ => trivial), HM.out.stays HF.out⟩
def ICoversPost (F : Nat → Prop) (w : World) (xb n : Nat) (es : List E) (e : Ending) (w' : World) : Prop :=
 ∃ c gb Fg, e = .returned (.pointer (some ⟨c, 0, none⟩)) ∧ Cov (fun _ => True) w' c gb es ∧ Gr Fg w' gb n es ∧ IStay F w xb n es w'
set_option maxRecDepth 100000 in
set_option maxHeartbeats 1000000 in
theorem icoversK_any (F : Nat → Prop) (w : World) (xb n : Nat) (es : List E) (hX : IxK F w xb n es) (hI : IOk n es) :
  Calls Tryz.prog 140 #[.pointer (some ⟨xb, 0, none⟩)] w (ICoversPost F w xb n es) := by
 obtain ⟨Fg, Fb, Fc, gb, bb, fs, r2, r3, r4, hM, hF⟩ := hX
 have c0 := hM.row.cell (i := 0) rfl
 have c2 := hM.row.cell (i := 3) rfl
 have f2 := hM.row.frozen 3 none
 have HM := Lib.hid hM
 have HF := Lib.hid hF
 have HI := Lib.hid hI
 rcases hM.kn.c with rfl | ⟨Y, rfl, hB⟩
 ·clear hM hF hI
  go_enter Tryz.func140, Tryz.ntmps140
  go_wp2_with fail
  refine (cof_any Fg w gb n es HM.out.gr (fun k h => (HM.out.g k h).2.2.2) HI.out.n40 HI.out.le HI.out.ok).mono ?_
  rintro e w1 ⟨Y, rfl, hB, hk⟩
  have HB := Lib.hid hB
  have HK := Lib.hid hk
  have hX1 := HM.out.row.keep hk (fun e => e)
  have d2 := hX1.cell (i := 3) rfl
  have g2 := hX1.frozen 3 none
  clear hB hk hX1 c0 c2 f2
  have ks : Keep (fun j => j = xb) w1 (w1.setCell ⟨xb, 3, none⟩ (.pointer (some ⟨Y, 0, none⟩))) := (Keep.refl (fun j => j = xb) w1).setCell (.inl rfl) _
  have KS := Lib.hid ks
  clear ks
  have HR : Hid ((w1.setCell ⟨xb, 3, none⟩ (.pointer (some ⟨Y, 0, none⟩))).cell? ⟨xb, 3, none⟩ = some (.pointer (some ⟨Y, 0, none⟩))) := Lib.hid (((HM.out.row.keep HK.out (fun e => e)).set (i := 3) (by simp) _).cell (i := 3) rfl)
  have r2 := HR.out
  go_wp2_with fail
  go_ret
  have hx := HM.out.row.lt
  have hB2 := HB.out.keep KS.out (fun k h1 h2 => by omega)
  refine ⟨Y, gb, Fg, rfl, hB2.mono (fun _ _ => trivial), (HM.out.gr.keep HK.out (fun _ _ e => e)).keep KS.out (fun k h1 h2 => (HM.out.g k h1).1 h2), HM.out.learn (Fn := fun k => w.heap.size ≤ k ∧ k < w1.heap.size) HF.out HK.out rfl (by omega) (fun j hj => hj) ⟨?_, .inr ⟨Y, rfl, hB2.mono (fun k hk => .inr hk)⟩, ?_⟩⟩
  ·rcases HM.out.kn.b with e | ⟨cv, e, hc⟩
   ·exact .inl e
   ·exact .inr ⟨cv, e, ((hc.keep HK.out (fun _ _ e => e)).keep KS.out (fun k h1 h2 => (HM.out.k k h1).1 h2)).mono (fun _ h => .inl h)⟩
  ·rcases HM.out.kn.p with e | ⟨cv, e, hc⟩
   ·exact .inl e
   ·exact .inr ⟨cv, e, ((hc.keep HK.out (fun _ _ e => e)).keep KS.out (fun k h1 h2 => (HM.out.k k h1).1 h2)).mono (fun _ h => .inl h)⟩
 ·have HB := Lib.hid hB
  clear hM hF hI hB
  go_enter Tryz.func140, Tryz.ntmps140
  go_wp2_with fail
  go_ret
  exact ⟨Y, gb, Fg, rfl, HB.out.mono (fun _ _ => trivial), HM.out.gr, HM.out.stays HF.out⟩
theorem blk_lens {n : Nat} {es : List E} (hI : IOk n es) {ps : List (List Nat)} (h : BlkList es ps) : ps.length ≤ 120 ∧ ∀ p, p ∈ ps → p.length ≤ 120 := by
 have := h.lens hI.ok.sorted
 have hl := hI.le
 exact ⟨by omega, fun p hp => by have := this.2 p hp; omega⟩
set_option maxRecDepth 100000 in
theorem iBlocks_any (F : Nat → Prop) (w : World) (xb n : Nat) (es : List E) (hX : IxK F w xb n es) (hI : IOk n es) :
  Calls Tryz.prog 89 #[.pointer (some ⟨xb, 0, none⟩)] w fun e w' => ∃ ps o c rows, BlkList es ps ∧ e = .returned (.slice o ps.length c) ∧ Mat (fun k => w.heap.size ≤ k) w' 63 3 o ps.length c rows ps ∧ IStay F w xb n es w' := by
 have HC := Lib.hid (iblocksK_any F w xb n es hX hI)
 have HI := Lib.hid hI
 clear hX hI
 go_enter Tryz.func89, Tryz.ntmps89
 go_wp2_with fail
 refine HC.out.mono ?_
 rintro e w1 ⟨Y, rfl, ⟨mv, pc, cc, po, co, rows, ps, cs, b1, b2, b3, b4, b5, b6, b7⟩, hS⟩
 have HCP := Lib.hid (bkparts_any _ w1 Y cs.length cc pc mv po co rows ps b4 b5 b1.ne (by have := (blk_lens HI.out b1).1; omega) (fun p hp => by have := (blk_lens HI.out b1).2 p hp; omega))
 have HB := Lib.hid b1
 have HS := Lib.hid hS
 clear b1 b2 b3 b4 b5 b6 b7 hS HC
 go_wp2_with fail
 refine HCP.out.mono ?_
 rintro e w2 ⟨o, c, rows2, rfl, hM, hk⟩
 have HP : Hid (∃ (ps' : List (List Nat)) (o' : Option Addr) (c' : Nat) (rows : List Rw), BlkList es ps' ∧ (Ending.returned (.slice o ps.length c) : Ending) = .returned (.slice o' ps'.length c') ∧ Mat (fun k => w.heap.size ≤ k) w2 63 3 o' ps'.length c' rows ps' ∧ IStay F w xb n es w2) :=
  Lib.hid ⟨ps, o, c, rows2, HB.out, rfl, hM.mono (fun k hk => by have := HS.out.2.size; have hk : w1.heap.size ≤ k := hk; omega), HS.out.keep hk⟩
 clear hM hk HCP
 go_wp2_with fail
 go_ret
 exact HP.out
set_option maxRecDepth 100000 in
theorem iCuts_any (F : Nat → Prop) (w : World) (xb n : Nat) (es : List E) (hX : IxK F w xb n es) (hI : IOk n es) :
  Calls Tryz.prog 92 #[.pointer (some ⟨xb, 0, none⟩)] w fun e w' => ∃ (cs : List Nat) (o : Option Addr) (c : Nat), (∀ x, x ∈ cs ↔ x < n ∧ Sep es x) ∧ cs.Pairwise (· < ·) ∧ e = .returned (.slice o cs.length c) ∧ Sl (fun k => w.heap.size ≤ k) w' 3 1 o cs.length c (ints cs) ∧ cs.length ≤ 40 ∧ IStay F w xb n es w' := by
 have HC := Lib.hid (iblocksK_any F w xb n es hX hI)
 have HI := Lib.hid hI
 clear hX hI
 go_enter Tryz.func92, Tryz.ntmps92
 go_wp2_with fail
 refine HC.out.mono ?_
 rintro e w1 ⟨Y, rfl, ⟨mv, pc, cc, po, co, rows, ps, cs, b1, b2, b3, b4, b5, b6, b7⟩, hS⟩
 have hcl : cs.length ≤ 40 := Nat.le_trans (nodup_lt_len (b3.imp (fun h => Nat.ne_of_lt h)) (fun x hx => ((b2 x).1 hx).1)) HI.out.n40
 have HCP := Lib.hid (bkcuts_any _ w1 Y cc mv _ co cs b4 (b6.mono (G := fun _ => True) (fun _ _ => trivial)) (by omega))
 have HB := Lib.hid (And.intro b2 (And.intro b3 hcl))
 have HS := Lib.hid hS
 clear b1 b2 b3 b4 b5 b6 b7 hS HC hcl
 go_wp2_with fail
 refine HCP.out.mono ?_
 rintro e w2 ⟨o, c, rfl, hM, hk⟩
 have HP : Hid (∃ (cs' : List Nat) (o' : Option Addr) (c' : Nat), (∀ x, x ∈ cs' ↔ x < n ∧ Sep es x) ∧ cs'.Pairwise (· < ·) ∧ (Ending.returned (.slice o cs.length c) : Ending) = .returned (.slice o' cs'.length c') ∧ Sl (fun k => w.heap.size ≤ k) w2 3 1 o' cs'.length c' (ints cs') ∧ cs'.length ≤ 40 ∧ IStay F w xb n es w2) :=
  Lib.hid ⟨cs, o, c, HB.out.1, HB.out.2.1, rfl, hM.mono (fun k hk => by have := HS.out.2.size; have hk : w1.heap.size ≤ k := hk; omega), HB.out.2.2, HS.out.keep hk⟩
 clear hM hk HCP
 go_wp2_with fail
 go_ret
 exact HP.out
set_option maxRecDepth 100000 in
theorem iPairs_any (F : Nat → Prop) (w : World) (xb n : Nat) (es : List E) (hX : IxK F w xb n es) (hI : IOk n es) :
  Calls Tryz.prog 96 #[.pointer (some ⟨xb, 0, none⟩)] w fun e w' => ∃ (o : Option Addr) (c : Nat), e = .returned (.slice o (alikes (mk es) es).length c) ∧ Sl (fun k => w.heap.size ≤ k) w' 191 2 o (alikes (mk es) es).length c (pcs (alikes (mk es) es)) ∧ IStay F w xb n es w' := by
 have HC := Lib.hid (icoversK_any F w xb n es hX hI)
 have HI := Lib.hid hI
 clear hX hI
 go_enter Tryz.func96, Tryz.ntmps96
 go_wp2_with fail
 refine HC.out.mono ?_
 rintro e w1 ⟨cv, gb, Fg, rfl, hC, hG, hS⟩
 have HCP := Lib.hid (cpairs_any _ Fg w1 cv gb n es hC hG HI.out.le HI.out.ok)
 have HS := Lib.hid hS
 clear hC hG hS HC
 go_wp2_with fail
 refine HCP.out.mono ?_
 rintro e w2 ⟨o, c, rfl, hM, hk⟩
 obtain ⟨L, hL⟩ : ∃ L, alikes (mk es) es = L := ⟨_, rfl⟩
 rw [hL] at hM ⊢
 have HP := Lib.hid (And.intro (hM.mono (G := fun k => w.heap.size ≤ k) (fun k hk => by have := HS.out.2.size; have hk : w1.heap.size ≤ k := hk; omega)) (HS.out.keep hk))
 have HLL := Lib.hid hL
 clear hM hk HCP hL
 go_wp2_with fail
 go_ret
 rw [HLL.out]
 exact ⟨o, c, rfl, HP.out.1, HP.out.2⟩
set_option maxRecDepth 100000 in
theorem iThrice_any (F : Nat → Prop) (w : World) (xb n : Nat) (es : List E) (hX : IxK F w xb n es) (hI : IOk n es) :
  Calls Tryz.prog 100 #[.pointer (some ⟨xb, 0, none⟩)] w fun e w' => ∃ (L : Nat → Nat) (o : Option Addr) (m c : Nat) (rows : List Rw), Canon n L ∧ (∀ x y, x < n → y < n → (L x = L y ↔ Thr es x y)) ∧ e = .returned (.slice o m c) ∧ Mat (fun k => w.heap.size ≤ k) w' 63 3 o m c rows (parts n L) ∧ IStay F w xb n es w' := by
 have HC := Lib.hid (icoversK_any F w xb n es hX hI)
 have HI := Lib.hid hI
 clear hX hI
 go_enter Tryz.func100, Tryz.ntmps100
 go_wp2_with fail
 refine HC.out.mono ?_
 rintro e w1 ⟨cv, gb, Fg, rfl, hC, hG, hS⟩
 have HCP := Lib.hid (cthrice_any _ Fg w1 cv gb n es hC hG HI.out.n40 HI.out.le HI.out.ok)
 have HS := Lib.hid hS
 clear hC hG hS HC
 go_wp2_with fail
 refine HCP.out.mono ?_
 rintro e w2 ⟨L, o, m, c, rows, h1, h2, rfl, hM, hk⟩
 have HP := Lib.hid (And.intro (And.intro h1 h2) (And.intro (hM.mono (G := fun k => w.heap.size ≤ k) (fun k hk => by have := HS.out.2.size; have := hk.1; omega)) (HS.out.keep hk)))
 clear hM hk HCP h1 h2
 go_wp2_with fail
 go_ret
 exact ⟨L, o, m, c, rows, HP.out.1.1, HP.out.1.2, rfl, HP.out.2.1, HP.out.2.2⟩
end Go.Proofs.YtfglkgkihafcpaaGreatDoor

namespace Go.Proofs.YtfglkgkihafcpaaGreatDoor
open Go.RowKit Go.Shelf Go.Sort
def Bld (w : World) (B b : Nat) (l : List UInt8) : Prop := Lib.IsBuilderF 39 5 B b (Lib.byteCells l) w
def WG (w : World) (B b : Nat) (k : Nat) : Prop := B ≤ k ∧ (k = b ∨ ∃ c fz, w.heap[k]? = some (.cells c 5 fz))
theorem bld_own_keep {w w' : World} {B : Nat} {e : TypeId} {v : Value} {n : Nat} {xs : List Value} (h : w.ownsRowF B e 1 v n xs) (k : Keep Nb w w') : w'.ownsRowF B e 1 v n xs := by
 refine ⟨h.1, ?_⟩
 rcases h.2 with hn | ⟨g, cap, cur, fz, rfl, hb, hg, rest⟩
 ·exact .inl hn
 ·exact .inr ⟨g, cap, cur, fz, rfl, hb, (k.block g (Array.getElem?_eq_some_iff.1 hg).1 (fun e => e)).trans hg, rest⟩
theorem Bld.keepN {w w' : World} {B b : Nat} {l : List UInt8} (h : Bld w B b l) (k : Keep Nb w w') : Bld w' B b l := by
 have one : ∀ p, Lib.BuilderAtF 39 5 B b p (Lib.byteCells l) w → Lib.BuilderAtF 39 5 B b p (Lib.byteCells l) w' := fun p ⟨hB, v, hb, ho, hne⟩ =>
  ⟨hB, v, (k.block b (Array.getElem?_eq_some_iff.1 hb).1 (fun e => e)).trans hb, bld_own_keep ho k, hne⟩
 exact Or.elim h (fun x => .inl (one _ x)) (fun x => .inr (one _ x))
theorem Bld.lt {w : World} {B b : Nat} {l : List UInt8} (h : Bld w B b l) : b < w.heap.size := by
 rcases h with ⟨_, v, hb, _⟩ | ⟨_, v, hb, _⟩
 ·exact (Array.getElem?_eq_some_iff.1 hb).1
 ·exact (Array.getElem?_eq_some_iff.1 hb).1
theorem Bld.made (w : World) : Bld (w.alloc (.cells #[.pointer none, .slice none 0 0] 39)) w.heap.size w.heap.size [] :=
 Lib.IsBuilderF.of (Lib.fresh_isBuilder _ _ w)
theorem keep_others {w w' : World} {B b : Nat} (hb : Below B w w') (ho : Lib.OthersKept 5 (some b) w w') : Keep (WG w B b) w w' := by
 refine ⟨hb.os, hb.tape, hb.output, hb.size, fun k hk hn => ?_⟩
 by_cases hkB : k < B
 ·exact hb.block k hkB
 ·have hg := Array.getElem?_eq_getElem hk
  rw [hg]
  refine ho k _ hg (fun e => hn ⟨by omega, .inl (by simpa using e)⟩) (fun c fz e => hn ⟨by omega, .inr ⟨c, fz, by rw [hg, e]⟩⟩)
theorem Row.notWG {w : World} {g : Nat} {T : TypeId} {l : List Value} (h : Row w g T l) (hT : T ≠ 5) {B b : Nat} (hb : g ≠ b) : ¬ WG w B b g := by
 rintro ⟨_, e | ⟨c, fz, e⟩⟩
 ·exact hb e
 ·obtain ⟨cs, hc, _⟩ := h
  rw [hc] at e
  cases e
  exact hT rfl
theorem wstr_any (w : World) (B b : Nat) (l : List UInt8) (s : ByteArray) (h : Bld w B b l) (hl : l.length + s.size ≤ 100000000) (hB : B ≤ w.heap.size) :
  Calls Tryz.prog 11 #[.pointer (some ⟨b, 0, none⟩), .string s] w fun e w' => e = .returned (.tuple #[.int .i64 s.size, .nilIface]) ∧ Bld w' B b (l ++ s.data.toList) ∧ Keep (WG w B b) w w' := by
 refine Calls.mono (Any.Builder_WriteString_k { Tryz.lays156 with } Tryz.Builder_Extra_156 B b (Lib.byteCells l) s w h (by simp [Lib.byteCells]; omega) hB) ?_
 rintro e w' ⟨rfl, h1, h2, h3⟩
 refine ⟨rfl, ?_, keep_others h2 h3⟩
 have e1 : Lib.byteCells l ++ Lib.strCells s = Lib.byteCells (l ++ s.data.toList) := by simp [Lib.byteCells, Lib.strCells]
 rw [e1] at h1
 exact .inr h1
theorem bstring_any (w : World) (B b : Nat) (l : List UInt8) (h : Bld w B b l) (hB : B ≤ w.heap.size) :
  Calls Tryz.prog 13 #[.pointer (some ⟨b, 0, none⟩)] w fun e w' => e = .returned (.string (bstr l)) ∧ Keep (WG w B b) w w' := by
 refine Calls.mono (Any.Builder_String_any_k Tryz.lays169 Tryz.Builder_Extra_169 B b l w h hB) ?_
 rintro e w' ⟨rfl, h1, h2, h3⟩
 exact ⟨rfl, keep_others h2 h3⟩
end Go.Proofs.YtfglkgkihafcpaaGreatDoor

