/- Part 34 of the proof: IKn3 IxT RFunc. -/
import Derived.Test.YtkpoobnldgfapabGreatDoorIb01
import Derived.Test.YtkpoobnldgfapabGreatDoorIb32
import Derived.Test.YtkpoobnldgfapabGreatDoorIb33
import Derived.RangeFuncWrites
import Derived.RangeFuncLeaves
set_option linter.unusedVariables false
set_option linter.unusedSimpArgs false
namespace Go.Proofs.YtkpoobnldgfapabGreatDoor
open Go.RowKit Pl Go.Maps
def IStay (F : Nat → Prop) (w : World) (xb n : Nat) (es : List E) (w' : World) : Prop := IxK (fun k => F k ∨ w.heap.size ≤ k) w' xb n es ∧ Keep F w w'
theorem IStay.keep {F : Nat → Prop} {w w1 w2 : World} {xb n : Nat} {es : List E} (h : IStay F w xb n es w1) (k : Keep Nb w1 w2) : IStay F w xb n es w2 :=
  ⟨h.1.keep k (fun _ _ e => e), h.2.trans' k (fun _ _ e => e) (fun _ _ e => e.elim)⟩
theorem IxM.learn {F Fg Fb Fc Fn : Nat → Prop} {w w' : World} {xb gb bb n : Nat} {es fs : List E} {r2 r3 r4 s2 s3 s4 : Value} {i : Nat} {v : Value} (h : IxM Fg Fb Fc w xb gb bb n es fs r2 r3 r4) (hF : F xb ∧ (∀ k, Fg k → F k) ∧ (∀ k, Fb k → F k) ∧ (∀ k, Fc k → F k)) (k : Keep Nb w w')
    (hr : ([.pointer (some ⟨gb, 0, none⟩), .pointer (some ⟨bb, 0, none⟩), r2, r3, r4] : List Value).set i v = [.pointer (some ⟨gb, 0, none⟩), .pointer (some ⟨bb, 0, none⟩), s2, s3, s4]) (hi : i < 5) (hn : ∀ j, Fn j → w.heap.size ≤ j ∧ j < w'.heap.size)
    (hk : KnB (fun j => Fc j ∨ Fn j) (w'.setCell ⟨xb, i, none⟩ v) n es gb s2 s3 s4) : IStay F w xb n es (w'.setCell ⟨xb, i, none⟩ v) := by
  have z := k.size
  have ks : Keep (fun j => j = xb) w' (w'.setCell ⟨xb, i, none⟩ v) := (Keep.refl (fun j => j = xb) w').setCell (.inl rfl) _
  have zs := ks.size
  have hxl := h.row.lt
  have hrow := (h.row.keep k (fun e => e)).set (i := i) (by simpa using hi) v
  rw [hr] at hrow
  refine ⟨⟨Fg, Fb, fun j => Fc j ∨ Fn j, gb, bb, fs, s2, s3, s4, ⟨hrow, (h.gr.keep k (fun _ _ e => e)).keep ks (fun j h1 h2 => (h.g j h1).1 h2), (h.brs.keep k (fun _ _ e => e)).keep ks (fun j h1 h2 => (h.br j h1).1 h2), h.mem, h.len, hk, fun j hj => ?_, fun j hj => ?_, fun j hj => ?_⟩, .inl hF.1, fun j hj => .inl (hF.2.1 j hj), fun j hj => .inl (hF.2.2.1 j hj), fun j hj => ?_⟩, (k.of_nb (F := F)).trans' ks (fun _ _ e => e) (fun j _ e => by rw [e]; exact hF.1)⟩
  · have := h.g j hj
    exact ⟨this.1, this.2.1, fun e => by
      rcases e with e | e
      · exact this.2.2.1 e
      · have := (hn j e).1; omega, by omega⟩
  · have := h.br j hj
    exact ⟨this.1, fun e => by
      rcases e with e | e
      · exact this.2.1 e
      · have := (hn j e).1; omega, by omega⟩
  · rcases hj with hj | hj
    · have := h.k j hj; exact ⟨this.1, by omega⟩
    · have := hn j hj; exact ⟨by omega, by omega⟩
  · rcases hj with hj | hj
    · exact .inl (hF.2.2.2 j hj)
    · exact .inr (hn j hj).1
theorem IxM.stays {F Fg Fb Fc : Nat → Prop} {w : World} {xb gb bb n : Nat} {es fs : List E} {r2 r3 r4 : Value} (h : IxM Fg Fb Fc w xb gb bb n es fs r2 r3 r4) (hF : F xb ∧ (∀ k, Fg k → F k) ∧ (∀ k, Fb k → F k) ∧ (∀ k, Fc k → F k)) : IStay F w xb n es w :=
  ⟨⟨Fg, Fb, Fc, gb, bb, fs, r2, r3, r4, h, .inl hF.1, fun j hj => .inl (hF.2.1 j hj), fun j hj => .inl (hF.2.2.1 j hj), fun j hj => .inl (hF.2.2.2 j hj)⟩, Keep.refl _ _⟩
def IBlocksPost (F : Nat → Prop) (w : World) (xb n : Nat) (es : List E) (e : Ending) (w' : World) : Prop :=
  ∃ Y, e = .returned (.pointer (some ⟨Y, 0, none⟩)) ∧ BkAt (fun _ => True) w' Y n es ∧ IStay F w xb n es w'
set_option maxRecDepth 100000 in
set_option maxHeartbeats 1000000 in
theorem iblocksK_any (F : Nat → Prop) (w : World) (xb n : Nat) (es : List E) (hX : IxK F w xb n es) (hI : IOk n es) :
    Calls Tryz.prog 119 #[.pointer (some ⟨xb, 0, none⟩)] w (IBlocksPost F w xb n es) := by
  obtain ⟨Fg, Fb, Fc, gb, bb, fs, r2, r3, r4, hM, hF⟩ := hX
  have c0 := hM.row.cell (i := 0) rfl
  have c2 := hM.row.cell (i := 2) rfl
  have f2 := hM.row.frozen 2 none
  have HM := Lib.hid hM
  have HF := Lib.hid hF
  have HI := Lib.hid hI
  rcases hM.kn.b with rfl | ⟨Y, rfl, hB⟩
  · clear hM hF hI
    go_enter Tryz.func119, Tryz.ntmps119
    go_wp2_with fail
    refine (bkof_any Fg w gb n es HM.out.gr (fun k h => (HM.out.g k h).2.2.2) HI.out.n40 HI.out.le HI.out.ok (fun X Y ob lb mb => deep_any w.heap.size X Y ob lb gb n (.map (some mb)) es Fg (fun k h => (HM.out.g k h).2.2.2) HI.out.n40 HI.out.le HI.out.ok.over HI.out.ok.ne n)).mono ?_
    rintro e w1 ⟨Y, mb, pc, cc, po, co, rows, ps, cs, M, G, rfl, b1, b2, b3, b4, b5, b6, b7, b8, hg, hy, hmb, hk⟩
    have hB : BkAt (fun k => w.heap.size ≤ k ∧ k < w1.heap.size) w1 Y n es := (BkAt.tight (F := fun k => w.heap.size ≤ k) ⟨_, pc, cc, po, co, rows, ps, cs, b1, b2, b3, b4, b5.mono hg, b6.mono hg, hy⟩)
    have HB := Lib.hid hB
    have HK := Lib.hid hk
    have hX1 := HM.out.row.keep hk (fun e => e)
    have d2 := hX1.cell (i := 2) rfl
    have g2 := hX1.frozen 2 none
    clear hB hk hX1 b1 b2 b3 b4 b5 b6 b7 b8 hg hy hmb c0 c2 f2
    have ks : Keep (fun j => j = xb) w1 (w1.setCell ⟨xb, 2, none⟩ (.pointer (some ⟨Y, 0, none⟩))) := (Keep.refl (fun j => j = xb) w1).setCell (.inl rfl) _
    have KS := Lib.hid ks
    clear ks
    have HR : Hid ((w1.setCell ⟨xb, 2, none⟩ (.pointer (some ⟨Y, 0, none⟩))).cell? ⟨xb, 2, none⟩ = some (.pointer (some ⟨Y, 0, none⟩))) := Lib.hid (((HM.out.row.keep HK.out (fun e => e)).set (i := 2) (by simp) _).cell (i := 2) rfl)
    have r2 := HR.out
    go_wp2_with fail
    go_ret
    have hx := HM.out.row.lt
    have hB2 := HB.out.keep KS.out (fun k h1 h2 => by omega)
    refine ⟨Y, rfl, hB2.mono (fun _ _ => trivial), HM.out.learn (Fn := fun k => w.heap.size ≤ k ∧ k < w1.heap.size) HF.out HK.out rfl (by omega) (fun j hj => hj) ⟨.inr ⟨Y, rfl, hB2.mono (fun k hk => .inr hk)⟩, ?_, ?_⟩⟩
    · rcases HM.out.kn.c with e | ⟨cv, e, hc⟩
      · exact .inl e
      · exact .inr ⟨cv, e, ((hc.keep HK.out (fun _ _ e => e)).keep KS.out (fun k h1 h2 => (HM.out.k k h1).1 h2)).mono (fun _ h => .inl h)⟩
    · rcases HM.out.kn.p with e | ⟨cv, e, hc⟩
      · exact .inl e
      · exact .inr ⟨cv, e, ((hc.keep HK.out (fun _ _ e => e)).keep KS.out (fun k h1 h2 => (HM.out.k k h1).1 h2)).mono (fun _ h => .inl h)⟩
  · have HB := Lib.hid hB
    clear hM hF hI hB
    go_enter Tryz.func119, Tryz.ntmps119
    go_wp2_with fail
    go_ret
    exact ⟨Y, rfl, HB.out.mono (fun _ _ => trivial), HM.out.stays HF.out⟩
def ICoversPost (F : Nat → Prop) (w : World) (xb n : Nat) (es : List E) (e : Ending) (w' : World) : Prop :=
  ∃ c gb Fg, e = .returned (.pointer (some ⟨c, 0, none⟩)) ∧ Cov (fun _ => True) w' c gb es ∧ Gr Fg w' gb n es ∧ IStay F w xb n es w'
set_option maxRecDepth 100000 in
set_option maxHeartbeats 1000000 in
theorem icoversK_any (F : Nat → Prop) (w : World) (xb n : Nat) (es : List E) (hX : IxK F w xb n es) (hI : IOk n es) :
    Calls Tryz.prog 120 #[.pointer (some ⟨xb, 0, none⟩)] w (ICoversPost F w xb n es) := by
  obtain ⟨Fg, Fb, Fc, gb, bb, fs, r2, r3, r4, hM, hF⟩ := hX
  have c0 := hM.row.cell (i := 0) rfl
  have c2 := hM.row.cell (i := 3) rfl
  have f2 := hM.row.frozen 3 none
  have HM := Lib.hid hM
  have HF := Lib.hid hF
  have HI := Lib.hid hI
  rcases hM.kn.c with rfl | ⟨Y, rfl, hB⟩
  · clear hM hF hI
    go_enter Tryz.func120, Tryz.ntmps120
    go_wp2_with fail
    refine (cof_any Fg w gb n es HM.out.gr (fun k h => (HM.out.g k h).2.2.2) HI.out.n40 HI.out.le HI.out.ok).mono ?_
    rintro e w1 ⟨Y, rfl, hB, hk⟩
    have HB := Lib.hid hB
    have HK := Lib.hid hk
    have hX1 := HM.out.row.keep hk (fun e => e)
    have d2 := hX1.cell (i := 3) rfl
    have g2 := hX1.frozen 3 none
    clear hB hk hX1 c0 c2 f2
    have ks : Keep (fun j => j = xb) w1 (w1.setCell ⟨xb, 3, none⟩ (.pointer (some ⟨Y, 0, none⟩))) := (Keep.refl (fun j => j = xb) w1).setCell (.inl rfl) _
    have KS := Lib.hid ks
    clear ks
    have HR : Hid ((w1.setCell ⟨xb, 3, none⟩ (.pointer (some ⟨Y, 0, none⟩))).cell? ⟨xb, 3, none⟩ = some (.pointer (some ⟨Y, 0, none⟩))) := Lib.hid (((HM.out.row.keep HK.out (fun e => e)).set (i := 3) (by simp) _).cell (i := 3) rfl)
    have r2 := HR.out
    go_wp2_with fail
    go_ret
    have hx := HM.out.row.lt
    have hB2 := HB.out.keep KS.out (fun k h1 h2 => by omega)
    refine ⟨Y, gb, Fg, rfl, hB2.mono (fun _ _ => trivial), (HM.out.gr.keep HK.out (fun _ _ e => e)).keep KS.out (fun k h1 h2 => (HM.out.g k h1).1 h2), HM.out.learn (Fn := fun k => w.heap.size ≤ k ∧ k < w1.heap.size) HF.out HK.out rfl (by omega) (fun j hj => hj) ⟨?_, .inr ⟨Y, rfl, hB2.mono (fun k hk => .inr hk)⟩, ?_⟩⟩
    · rcases HM.out.kn.b with e | ⟨cv, e, hc⟩
      · exact .inl e
      · exact .inr ⟨cv, e, ((hc.keep HK.out (fun _ _ e => e)).keep KS.out (fun k h1 h2 => (HM.out.k k h1).1 h2)).mono (fun _ h => .inl h)⟩
    · rcases HM.out.kn.p with e | ⟨cv, e, hc⟩
      · exact .inl e
      · exact .inr ⟨cv, e, ((hc.keep HK.out (fun _ _ e => e)).keep KS.out (fun k h1 h2 => (HM.out.k k h1).1 h2)).mono (fun _ h => .inl h)⟩
  · have HB := Lib.hid hB
    clear hM hF hI hB
    go_enter Tryz.func120, Tryz.ntmps120
    go_wp2_with fail
    go_ret
    exact ⟨Y, gb, Fg, rfl, HB.out.mono (fun _ _ => trivial), HM.out.gr, HM.out.stays HF.out⟩
theorem blk_lens {n : Nat} {es : List E} (hI : IOk n es) {ps : List (List Nat)} (h : BlkList es ps) : ps.length ≤ 120 ∧ ∀ p, p ∈ ps → p.length ≤ 120 := by
  have := h.lens hI.ok.sorted
  have hl := hI.le
  exact ⟨by omega, fun p hp => by have := this.2 p hp; omega⟩
set_option maxRecDepth 100000 in
theorem iBlocks_any (F : Nat → Prop) (w : World) (xb n : Nat) (es : List E) (hX : IxK F w xb n es) (hI : IOk n es) :
    Calls Tryz.prog 60 #[.pointer (some ⟨xb, 0, none⟩)] w fun e w' => ∃ ps o c rows, BlkList es ps ∧ e = .returned (.slice o ps.length c) ∧ Mat (fun k => w.heap.size ≤ k) w' 33 3 o ps.length c rows ps ∧ IStay F w xb n es w' := by
  have HC := Lib.hid (iblocksK_any F w xb n es hX hI)
  have HI := Lib.hid hI
  clear hX hI
  go_enter Tryz.func60, Tryz.ntmps60
  go_wp2_with fail
  refine HC.out.mono ?_
  rintro e w1 ⟨Y, rfl, ⟨mv, pc, cc, po, co, rows, ps, cs, b1, b2, b3, b4, b5, b6, b7⟩, hS⟩
  have HCP := Lib.hid (bkparts_any _ w1 Y cs.length cc pc mv po co rows ps b4 b5 b1.ne (by have := (blk_lens HI.out b1).1; omega) (fun p hp => by have := (blk_lens HI.out b1).2 p hp; omega))
  have HB := Lib.hid b1
  have HS := Lib.hid hS
  clear b1 b2 b3 b4 b5 b6 b7 hS HC
  go_wp2_with fail
  refine HCP.out.mono ?_
  rintro e w2 ⟨o, c, rows2, rfl, hM, hk⟩
  have HP : Hid (∃ (ps' : List (List Nat)) (o' : Option Addr) (c' : Nat) (rows : List Rw), BlkList es ps' ∧ (Ending.returned (.slice o ps.length c) : Ending) = .returned (.slice o' ps'.length c') ∧ Mat (fun k => w.heap.size ≤ k) w2 33 3 o' ps'.length c' rows ps' ∧ IStay F w xb n es w2) :=
    Lib.hid ⟨ps, o, c, rows2, HB.out, rfl, hM.mono (fun k hk => by have := HS.out.2.size; have hk : w1.heap.size ≤ k := hk; omega), HS.out.keep hk⟩
  clear hM hk HCP
  go_wp2_with fail
  go_ret
  exact HP.out
set_option maxRecDepth 100000 in
theorem iCuts_any (F : Nat → Prop) (w : World) (xb n : Nat) (es : List E) (hX : IxK F w xb n es) (hI : IOk n es) :
    Calls Tryz.prog 58 #[.pointer (some ⟨xb, 0, none⟩)] w fun e w' => ∃ (cs : List Nat) (o : Option Addr) (c : Nat), (∀ x, x ∈ cs ↔ x < n ∧ Sep es x) ∧ cs.Pairwise (· < ·) ∧ e = .returned (.slice o cs.length c) ∧ Sl (fun k => w.heap.size ≤ k) w' 3 1 o cs.length c (ints cs) ∧ cs.length ≤ 40 ∧ IStay F w xb n es w' := by
  have HC := Lib.hid (iblocksK_any F w xb n es hX hI)
  have HI := Lib.hid hI
  clear hX hI
  go_enter Tryz.func58, Tryz.ntmps58
  go_wp2_with fail
  refine HC.out.mono ?_
  rintro e w1 ⟨Y, rfl, ⟨mv, pc, cc, po, co, rows, ps, cs, b1, b2, b3, b4, b5, b6, b7⟩, hS⟩
  have hcl : cs.length ≤ 40 := Nat.le_trans (nodup_lt_len (b3.imp (fun h => Nat.ne_of_lt h)) (fun x hx => ((b2 x).1 hx).1)) HI.out.n40
  have HCP := Lib.hid (bkcuts_any _ w1 Y cc mv _ co cs b4 (b6.mono (G := fun _ => True) (fun _ _ => trivial)) (by omega))
  have HB := Lib.hid (And.intro b2 (And.intro b3 hcl))
  have HS := Lib.hid hS
  clear b1 b2 b3 b4 b5 b6 b7 hS HC hcl
  go_wp2_with fail
  refine HCP.out.mono ?_
  rintro e w2 ⟨o, c, rfl, hM, hk⟩
  have HP : Hid (∃ (cs' : List Nat) (o' : Option Addr) (c' : Nat), (∀ x, x ∈ cs' ↔ x < n ∧ Sep es x) ∧ cs'.Pairwise (· < ·) ∧ (Ending.returned (.slice o cs.length c) : Ending) = .returned (.slice o' cs'.length c') ∧ Sl (fun k => w.heap.size ≤ k) w2 3 1 o' cs'.length c' (ints cs') ∧ cs'.length ≤ 40 ∧ IStay F w xb n es w2) :=
    Lib.hid ⟨cs, o, c, HB.out.1, HB.out.2.1, rfl, hM.mono (fun k hk => by have := HS.out.2.size; have hk : w1.heap.size ≤ k := hk; omega), HB.out.2.2, HS.out.keep hk⟩
  clear hM hk HCP
  go_wp2_with fail
  go_ret
  exact HP.out
set_option maxRecDepth 100000 in
theorem iPairs_any (F : Nat → Prop) (w : World) (xb n : Nat) (es : List E) (hX : IxK F w xb n es) (hI : IOk n es) :
    Calls Tryz.prog 62 #[.pointer (some ⟨xb, 0, none⟩)] w fun e w' => ∃ (o : Option Addr) (c : Nat), e = .returned (.slice o (alikes (mk es) es).length c) ∧ Sl (fun k => w.heap.size ≤ k) w' 58 2 o (alikes (mk es) es).length c (pcs (alikes (mk es) es)) ∧ IStay F w xb n es w' := by
  have HC := Lib.hid (icoversK_any F w xb n es hX hI)
  have HI := Lib.hid hI
  clear hX hI
  go_enter Tryz.func62, Tryz.ntmps62
  go_wp2_with fail
  refine HC.out.mono ?_
  rintro e w1 ⟨cv, gb, Fg, rfl, hC, hG, hS⟩
  have HCP := Lib.hid (cpairs_any _ Fg w1 cv gb n es hC hG HI.out.le HI.out.ok)
  have HS := Lib.hid hS
  clear hC hG hS HC
  go_wp2_with fail
  refine HCP.out.mono ?_
  rintro e w2 ⟨o, c, rfl, hM, hk⟩
  obtain ⟨L, hL⟩ : ∃ L, alikes (mk es) es = L := ⟨_, rfl⟩
  rw [hL] at hM ⊢
  have HP := Lib.hid (And.intro (hM.mono (G := fun k => w.heap.size ≤ k) (fun k hk => by have := HS.out.2.size; have hk : w1.heap.size ≤ k := hk; omega)) (HS.out.keep hk))
  have HLL := Lib.hid hL
  clear hM hk HCP hL
  go_wp2_with fail
  go_ret
  rw [HLL.out]
  exact ⟨o, c, rfl, HP.out.1, HP.out.2⟩
set_option maxRecDepth 100000 in
theorem iThrice_any (F : Nat → Prop) (w : World) (xb n : Nat) (es : List E) (hX : IxK F w xb n es) (hI : IOk n es) :
    Calls Tryz.prog 61 #[.pointer (some ⟨xb, 0, none⟩)] w fun e w' => ∃ (L : Nat → Nat) (o : Option Addr) (m c : Nat) (rows : List Rw), Canon n L ∧ (∀ x y, x < n → y < n → (L x = L y ↔ Thr es x y)) ∧ e = .returned (.slice o m c) ∧ Mat (fun k => w.heap.size ≤ k) w' 33 3 o m c rows (parts n L) ∧ IStay F w xb n es w' := by
  have HC := Lib.hid (icoversK_any F w xb n es hX hI)
  have HI := Lib.hid hI
  clear hX hI
  go_enter Tryz.func61, Tryz.ntmps61
  go_wp2_with fail
  refine HC.out.mono ?_
  rintro e w1 ⟨cv, gb, Fg, rfl, hC, hG, hS⟩
  have HCP := Lib.hid (cthrice_any _ Fg w1 cv gb n es hC hG HI.out.n40 HI.out.le HI.out.ok)
  have HS := Lib.hid hS
  clear hC hG hS HC
  go_wp2_with fail
  refine HCP.out.mono ?_
  rintro e w2 ⟨L, o, m, c, rows, h1, h2, rfl, hM, hk⟩
  have HP := Lib.hid (And.intro (And.intro h1 h2) (And.intro (hM.mono (G := fun k => w.heap.size ≤ k) (fun k hk => by have := HS.out.2.size; have := hk.1; omega)) (HS.out.keep hk)))
  clear hM hk HCP h1 h2
  go_wp2_with fail
  go_ret
  exact ⟨L, o, m, c, rows, HP.out.1.1, HP.out.1.2, rfl, HP.out.2.1, HP.out.2.2⟩
end Go.Proofs.YtkpoobnldgfapabGreatDoor

namespace Go.Proofs.YtkpoobnldgfapabGreatDoor
open Go.RowKit Pl Go.Maps
def IxT (tag : Nat → Nat) (w : World) (i xb n : Nat) (es : List E) : Prop := IxK (fun k => tag k = i) w xb n es
def retag (tag : Nat → Nat) (w w' : World) (i : Nat) : Nat → Nat := fun k => if w.heap.size ≤ k ∧ k < w'.heap.size then i else tag k
theorem retag_old {tag : Nat → Nat} {w w' : World} {i k : Nat} (h : k < w.heap.size) : retag tag w w' i k = tag k := if_neg (by omega)
theorem IxT.own {tag : Nat → Nat} {w w' : World} {i xb n : Nat} {es : List E} (h : IxK (fun k => tag k = i ∨ w.heap.size ≤ k) w' xb n es) : IxT (retag tag w w' i) w' i xb n es :=
  h.mono fun k hk hl => by
    unfold retag
    rcases hk with hk | hk
    · split
      · rfl
      · exact hk
    · rw [if_pos ⟨hk, hl⟩]
theorem IxT.other {tag : Nat → Nat} {w w' : World} {i j xb n : Nat} {es : List E} (h : IxT tag w j xb n es) (k : Keep (fun k => tag k = i) w w') (hij : j ≠ i) : IxT (retag tag w w' i) w' j xb n es :=
  (h.tight.keep k (fun _ h1 h2 => hij (h1.1.symm.trans h2))).mono fun _ hk _ => (retag_old hk.2).trans hk.1
theorem IxT.keep {tag : Nat → Nat} {w w' : World} {j xb n : Nat} {es : List E} (h : IxT tag w j xb n es) (k : Keep Nb w w') : IxT tag w' j xb n es := IxK.keep h k (fun _ _ e => e)
theorem IxT.stay {tag : Nat → Nat} {w w' : World} {i xb n : Nat} {es : List E} (h : IStay (fun k => tag k = i) w xb n es w') : IxT (retag tag w w' i) w' i xb n es := IxT.own h.1
end Go.Proofs.YtkpoobnldgfapabGreatDoor

namespace Go.Proofs.YtkpoobnldgfapabGreatDoor
open Go.RowKit
variable {F : Fence} {n : Nat} {P : Program}
theorem Keep.putObj {G : Nat → Prop} {w : World} {r : Nat} (o : Obj) (h : G r) : Keep G w (w.putObj r o) :=
  ⟨rfl, rfl, rfl, by simp, fun k _ hn => World.putObj_heap_other (fun e => hn (e ▸ h))⟩
def Box3 (B : Nat) (W W' : World) : Prop := ∀ k, B ≤ k → k < B + 3 → W'.heap[k]? = W.heap[k]?
theorem Box3.refl (B : Nat) (W : World) : Box3 B W W := fun _ _ _ => rfl
theorem Box3.trans {B : Nat} {X Y Z : World} (h : Box3 B X Y) (g : Box3 B Y Z) : Box3 B X Z := fun k a b => (g k a b).trans (h k a b)
theorem Box3.of_keep {B : Nat} {G : Nat → Prop} {X Y : World} (h : Keep G X Y) (hB : B + 3 ≤ X.heap.size) (hG : ∀ k, B ≤ k → k < B + 3 → ¬ G k) : Box3 B X Y := fun k a b => h.block k (by omega) (hG k a b)
def AbC {β : Type} (B : Nat) (J : β → World → Prop) : Prop := ∀ s W W', J s W → Keep (fun k => k = B) W W' → J s W'
def OwnS {β : Type} (B hs : Nat) (I : β → World → Prop) : Prop :=
  ∀ s W W', I s W → Keep (fun k => k = B ∨ (hs ≤ k ∧ ∃ o : Obj, W.heap[k]? = some o ∧ o.isCells = false)) W W' → I s W'
def SeqRuns {α : Type} (F : Fence) (n : Nat) (P : Program) (g : Nat) (lb : Array Value) (encs : α → Array Value) (xs : List α) (B : Nat) (w : World) : Prop :=
  ∀ (l : Nat) (J Jx : List α → World → Prop) (W : World), Box3 B w W → w.heap.size ≤ W.heap.size → AbC B J → AbC B Jx →
    (∀ pre x post W1, xs = pre ++ x :: post → J pre W1 → YieldAt F (n - 1) P l (encs x) W1 fun e W' =>
      (e = .returned (.bool true) ∧ J (pre ++ [x]) W' ∧ Box3 B W1 W' ∧ W1.heap.size ≤ W'.heap.size) ∨ (e = .returned (.bool false) ∧ Jx (pre ++ [x]) W')) →
    J [] W →
    CallsIn F n P g (#[.func (.yield l) #[] #[]] ++ lb) W fun e W' => (∃ v, e = .returned v) ∧ (J xs W' ∨ ∃ pre, pre <+: xs ∧ Jx pre W')
theorem wpIn_rangeFunc_S {α : Type} {g : Operand} {ps : Array Tmp} {assign body : Code} {Q : Exit → Act → World → Prop} {a : Act} {w : World}
    (hro : F.round = none) (h1 : 1 ≤ n) {gf : Nat} {lb : Array Value} (hg : a.eval g = .func (.func gf) #[] lb) (hFg : F.fn gf) (eg : ∀ args w, (callFunc gf args).run P w = .ok (.enter gf args) w)
    {encs : α → Array Value} {xs : List α} {B : Nat} (hB : B + 3 ≤ w.heap.size) (hseq : SeqRuns F (n - 1) P gf lb encs xs B w) (hps : ∀ x, (encs x).size = ps.size)
    (I : List α → World → Prop) (Ix : Code → List α → World → Prop) (hI : OwnS B w.heap.size I) (hIx : ∀ c, OwnS B w.heap.size (Ix c)) (h0 : I [] w) (a₁ : α → Act)
    (hassign : ∀ (l : Nat) (x : α) (W : World) (K : Act → World → Prop), K (a₁ x) W →
      assign.wpIn (F.inRound l) (n - 1 - 1) P (Exit.then K (fun _ _ _ => False)) { tmps := (ps.zip (encs x)).foldl (fun t (p, v) => t.setIfInBounds p v) a.tmps, defers := [] } W)
    (hbody : ∀ (l : Nat) (pre : List α) (x : α) (post : List α) (W : World), xs = pre ++ x :: post → w.heap.size ≤ W.heap.size → I pre W → body.wpIn (F.inRound l) (n - 1 - 1) P (ownPostG w.heap.size (Box3 B) I Ix (pre ++ [x]) W) (a₁ x) W)
    (hdone : ∀ (D : Nat) (W : World), w.heap.size ≤ D → I xs W → W.heap[D]? = some (.deferred (some [])) → Q .normal { a with defers := { target := .collected D, args := #[] } :: a.defers } W)
    (hstop : ∀ (D : Nat) (c : Code) (pre : List α) (W : World), w.heap.size ≤ D → pre <+: xs → Ix c pre W → W.heap[D]? = some (.deferred (some [])) → c.wpIn F n P Q { a with defers := { target := .collected D, args := #[] } :: a.defers } W) :
    (Code.rangeFunc g ps assign body).wpIn F n P Q a w := by
  refine wpIn_rangeFunc ?_
  intro fn hfn
  rw [hro]
  obtain ⟨rec, hrec⟩ : ∃ rec : LoopState → Option Code → Loop, rec = fun st pe => { state := st, pending := pe, fn, tmps := a.tmps, params := ps, assign, body, defers := w.heap.size } := ⟨_, rfl⟩
  obtain ⟨W1, hW1⟩ : ∃ W1, (w.alloc (.deferred (some []))).alloc (.loop (rec .ready none)) = W1 := ⟨_, rfl⟩
  have hL1 : W1.heap[w.heap.size + 1]? = some (.loop (rec .ready none)) := by
    rw [← hW1]; have := World.alloc_heap_new (w.alloc (.deferred (some []))) (.loop (rec .ready none)); rwa [World.size_alloc] at this
  have hK1 : W1.heap[w.heap.size]? = some (.deferred (some [])) := by
    rw [← hW1]; exact (Below.heap_alloc _ _ _ (by simp)).trans (World.alloc_heap_new w _)
  have hkA : Keep (fun _ => False) w W1 := by rw [← hW1]; exact ((Keep.refl _ w).alloc _).alloc _
  have hI1 : I [] W1 := hI _ _ _ h0 (hkA.mono (fun _ _ h => h.elim))
  have hz1 : W1.heap.size = w.heap.size + 2 := by rw [← hW1]; simp
  refine ⟨w.heap.size + 1, [{ target := .collected w.heap.size, args := #[] }], W1, { target := .fn (.func gf) lb, args := #[.func (.yield (w.heap.size + 1)) #[] #[]] }, W1, gf,
    #[.func (.yield (w.heap.size + 1)) #[] #[]] ++ lb, W1, ?_, ?_, ?_, ?_, fun _ => h1, ?_⟩
  · rw [← hW1, hrec]; exact run_enterLoop_outer _ _ _ _ _
  · simp only [resolve, hg]
    simp [go_sem]
  · intro f' hf'; simp [Target.leads] at hf'; subst hf'; exact hFg
  · simp [invoke, go_sem, eg]
  · have hput : ∀ {X : List α → World → Prop} (_ : OwnS B w.heap.size X) {s : List α} {W : World} {l : Nat} {o : Obj} (o' : Obj), X s W → w.heap.size ≤ l → W.heap[l]? = some o → o.isCells = false → X s (W.putObj l o') :=
      fun hX _ _ _ _ o' hs hl ho hc => hX _ _ _ hs (Keep.putObj o' (.inr ⟨hl, _, ho, hc⟩))
    have habs : ∀ {A A' : World} {k : Nat} {o : Obj}, Keep (fun k => k = B) A A' → w.heap.size ≤ k → A.heap[k]? = some o → A'.heap[k]? = some o :=
      fun hk hl ho => (hk.block _ (Array.getElem?_eq_some_iff.1 ho).1 (fun e => by omega)).trans ho
    have hwid : ∀ {A A' : World}, Keep (fun k => k = B) A A' → Keep (fun k => k = B ∨ (w.heap.size ≤ k ∧ ∃ o : Obj, A.heap[k]? = some o ∧ o.isCells = false)) A A' := fun h => h.mono (fun _ _ e => .inl e)
    refine (hseq (w.heap.size + 1)
      (fun pre W => I pre W ∧ W.heap[w.heap.size + 1]? = some (.loop (rec .ready none)) ∧ W.heap[w.heap.size]? = some (.deferred (some [])))
      (fun pre W => ∃ c, Ix c pre W ∧ W.heap[w.heap.size + 1]? = some (.loop (rec .done (some c))) ∧ W.heap[w.heap.size]? = some (.deferred (some [])))
      W1 (Box3.of_keep hkA hB (fun _ _ _ h => h)) (by omega)
      (fun s A A' hs hk => ⟨hI s A A' hs.1 (hwid hk), habs hk (by omega) hs.2.1, habs hk (by omega) hs.2.2⟩)
      (fun s A A' hs hk => by
        obtain ⟨c, hc, hl, hd⟩ := hs
        exact ⟨c, hIx c s A A' hc (hwid hk), habs hk (by omega) hl, habs hk (by omega) hd⟩)
      ?_ ⟨hI1, hL1, hK1⟩).mono ?_
    · rintro pre x post W hx ⟨hi, hl, hk⟩
      have hlt : w.heap.size + 1 < W.heap.size := (Array.getElem?_eq_some_iff.1 hl).1
      have hy := run_yield (P := P) (args := encs x) hl (by rw [hrec]; exact hps x)
      rw [hrec] at hy
      refine ⟨fn, _, assign, body, hy, roundIn_of_wpIn hfn (hassign _ x W _ ⟨_, run_beginRound hl (by rw [hrec]), ?_⟩)⟩
      have hl2 : (W.putObj (w.heap.size + 1) (.loop { rec .ready none with state := .busy })).heap[w.heap.size + 1]? = some (.loop { rec .ready none with state := .busy }) := World.putObj_heap_same hlt
      have hk2 : (W.putObj (w.heap.size + 1) (.loop { rec .ready none with state := .busy })).heap[w.heap.size]? = some (.deferred (some [])) := (World.putObj_heap_other (by omega)).trans hk
      have hpb : ∀ (X : World) (o' : Obj), Box3 B X (X.putObj (w.heap.size + 1) o') := fun X o' k _ hb => World.putObj_heap_other (by omega)
      refine wpIn_mono (hbody _ pre x post _ hx (by simp only [World.putObj_size]; omega) (hput hI _ hi (by omega) hl rfl)) ?_
      have fin : ∀ (jump : Option Code) (W3 : World), KeepsFrom w.heap.size (W.putObj (w.heap.size + 1) (.loop { rec .ready none with state := .busy })) W3 →
          (Instr.endRound (w.heap.size + 1) jump).run P W3 = .ok (.bool jump.isNone) (W3.putObj (w.heap.size + 1) (.loop (rec (if jump.isNone then .ready else .done) jump))) ∧
          W3.heap[w.heap.size + 1]? = some (.loop { rec .ready none with state := .busy }) ∧
          (W3.putObj (w.heap.size + 1) (.loop (rec (if jump.isNone then .ready else .done) jump))).heap[w.heap.size + 1]? = some (.loop (rec (if jump.isNone then .ready else .done) jump)) ∧
          (W3.putObj (w.heap.size + 1) (.loop (rec (if jump.isNone then .ready else .done) jump))).heap[w.heap.size]? = some (.deferred (some [])) := fun jump W3 hk3 => by
        have hl3 := hk3.same _ _ (by omega) hl2 rfl
        have := run_endRound (P := P) jump hl3
        rw [hrec] at this ⊢
        exact ⟨this, by rw [hrec] at hl3; exact hl3, World.putObj_heap_same (Array.getElem?_eq_some_iff.1 hl3).1, (World.putObj_heap_other (by omega)).trans (hk3.same _ _ (Nat.le_refl _) hk2 rfl)⟩
      rintro e a3 W3 hp
      cases e with
      | normal =>
        obtain ⟨hk3, hkp3, hi3⟩ := hp
        obtain ⟨hr, hl3, hl4, hk4⟩ := fin none W3 hk3
        have hsz := hk3.size
        simp only [World.putObj_size] at hsz
        exact ⟨_, _, hr, .inl ⟨rfl, ⟨hput hI _ hi3 (by omega) hl3 rfl, hl4, hk4⟩, ((hpb W _).trans hkp3).trans (hpb W3 _), by simp only [World.putObj_size]; exact hsz⟩⟩
      | ret =>
        obtain ⟨hk3, hi3⟩ := hp
        obtain ⟨hr, hl3, hl4, hk4⟩ := fin (some .ret) W3 hk3
        exact ⟨_, _, hr, .inr ⟨rfl, .ret, hput (hIx _) _ hi3 (by omega) hl3 rfl, hl4, hk4⟩⟩
      | exit id =>
        obtain ⟨hk3, hi3⟩ := hp
        obtain ⟨hr, hl3, hl4, hk4⟩ := fin (some (.exit id)) W3 hk3
        exact ⟨_, _, hr, .inr ⟨rfl, .exit id, hput (hIx _) _ hi3 (by omega) hl3 rfl, hl4, hk4⟩⟩
      | goto t =>
        obtain ⟨hk3, hi3⟩ := hp
        obtain ⟨hr, hl3, hl4, hk4⟩ := fin (some (.goto t)) W3 hk3
        exact ⟨_, _, hr, .inr ⟨rfl, .goto t, hput (hIx _) _ hi3 (by omega) hl3 rfl, hl4, hk4⟩⟩
      | panic ch => exact hp.elim
      | outgrown => exact hp.elim
    · rintro e W2 ⟨⟨v, rfl⟩, (⟨hi, hl, hk⟩ | ⟨pre, hSp, c, hi, hl, hk⟩)⟩
      · exact ⟨none, _, by have := run_endLoop (P := P) hl (by rw [hrec]; simp); rw [hrec] at this; exact this, hdone _ _ (Nat.le_refl _) (hput hI _ hi (by omega) hl rfl) ((World.putObj_heap_other (by omega)).trans hk)⟩
      · exact ⟨some c, _, by have := run_endLoop (P := P) hl (by rw [hrec]; simp); rw [hrec] at this; exact this, hstop _ c pre _ (Nat.le_refl _) hSp (hput (hIx c) _ hi (by omega) hl rfl) ((World.putObj_heap_other (by omega)).trans hk)⟩
def Marks (W : World) (ds : List Deferred) (Ds : List Nat) : Prop :=
  ds = Ds.map (fun D => { target := .collected D, args := #[] }) ∧ Ds.Nodup ∧ ∀ D, D ∈ Ds → W.heap[D]? = some (.deferred (some []))
theorem Marks.keep {G : Nat → Prop} {W W' : World} {ds : List Deferred} {Ds : List Nat} (h : Marks W ds Ds) (k : Keep G W W') (hG : ∀ D, D ∈ Ds → ¬ G D) : Marks W' ds Ds :=
  ⟨h.1, h.2.1, fun D hD => (k.block D (Array.getElem?_eq_some_iff.1 (h.2.2 D hD)).1 (hG D hD)).trans (h.2.2 D hD)⟩
theorem Marks.cons {W : World} {ds : List Deferred} {Ds : List Nat} (h : Marks W ds Ds) {D : Nat} (hD : W.heap[D]? = some (.deferred (some []))) (hn : D ∉ Ds) : Marks W ({ target := .collected D, args := #[] } :: ds) (D :: Ds) :=
  ⟨by rw [h.1]; rfl, List.nodup_cons.2 ⟨hn, h.2.1⟩, fun E hE => by
    rcases List.mem_cons.1 hE with rfl | hE
    · exact hD
    · exact h.2.2 E hE⟩
theorem leaves_marks {fn : Func} {tmps : Array Value} {R : Ending → World → Prop} : ∀ (Ds : List Nat) (ds : List Deferred) (W : World), Marks W ds Ds →
    (∀ W', Keep (fun k => k ∈ Ds) W W' → LeavesIn F n P fn tmps R [] .returning W') → LeavesInM F n P fn tmps R ds .returning W := by
  intro Ds
  induction Ds with
  | nil => intro ds W h hR; obtain ⟨rfl, -, -⟩ := h; exact hR W (Keep.refl _ W)
  | cons D Ds ih =>
    intro ds W h hR
    obtain ⟨rfl, hnd, hb⟩ := h
    rw [List.nodup_cons] at hnd
    have hD := hb D (by simp)
    have hk : Keep (fun k => k = D) W (W.putObj D (.deferred none)) := Keep.putObj _ rfl
    refine ⟨by simp, .inl ⟨D, _, rfl, run_takeDeferred hD, ?_⟩⟩
    refine ih _ _ ⟨rfl, hnd.2, fun E hE => ?_⟩ (fun W' hk' => hR W' ?_)
    · exact (World.putObj_heap_other (fun e : E = D => hnd.1 (e ▸ hE))).trans (hb E (by simp [hE]))
    · exact hk.trans' hk' (fun _ _ e => by simp [e]) (fun _ _ e => by simp [e])
end Go.Proofs.YtkpoobnldgfapabGreatDoor

