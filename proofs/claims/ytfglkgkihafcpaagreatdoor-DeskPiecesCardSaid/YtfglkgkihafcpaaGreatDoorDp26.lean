/- Part 26 of the proof: Deep1. -/
import Derived.Test.YtfglkgkihafcpaaGreatDoorDp23
import Derived.Test.YtfglkgkihafcpaaGreatDoorDp24
import Derived.Test.YtfglkgkihafcpaaGreatDoorDp25
import Derived.BigRegion
import Derived.BigQuiet
import Derived.Deep.QuietTactic
import Derived.Deep.DeepCutAuto
import Derived.Deep.LoopGhost
import Derived.Deep.RegionLaw
set_option linter.unusedVariables false
set_option linter.unusedSimpArgs false
namespace Go.Proofs.YtfglkgkihafcpaaGreatDoor
open Go.RowKit Pl
set_option maxRecDepth 100000 in
set_option maxHeartbeats 40000000 in
theorem deep_step (base X Y ob lb gb n : Nat) (mv : Value) (es : List E) (F : Nat → Prop) (hFb : ∀ k, F k → k < base) (hn : n ≤ 40) (hl : es.length ≤ 120) (ho : Over n es) (hne : ∀ e, e ∈ es → e.a ≠ e.b) (k : Nat) (ih : DeepP base X Y ob lb gb n mv es F k) : DeepP base X Y ob lb gb n mv es F (k + 1) := by
 intro W tag s so po co sc pc cc rows x by_ hx h0 hk hw hD hG
 have HO := Lib.hid ho
 have HIH := Lib.hid ih
 have HFB := Lib.hid hFb
 have HNE := Lib.hid hne
 have HD := Lib.hid hD
 have HG := Lib.hid hG
 have H0 := Lib.hid (And.intro h0 (And.intro hk hw))
 have x0 := hD.head.cell (i := 0) rfl
 have x1 := hD.head.cell (i := 1) rfl
 have x2 := hD.head.cell (i := 2) rfl
 have x3 := hD.head.cell (i := 3) rfl
 have fX := fun i => hD.head.frozen i none
 obtain ⟨cn, hcn⟩ : ∃ cn, s.cnt = cn := ⟨_, rfl⟩
 have HCN := Lib.hid hcn
 rw [hcn] at x1
 have hcw : s.cnt ≤ wt s := by unfold wt; omega
 have hcn1 : cn ≤ 100000 := by omega
 have o0 := hD.ord.cell (fints_get s.ord hx)
 have l0 := hD.low.cell (fints_get s.low hx)
 have fO := hD.ord.frozen x none
 have fL := hD.low.frozen x none
 have nXO : X ≠ ob := fun e => by have := hD.tX; have := hD.tO; subst e; omega
 have nXL : X ≠ lb := fun e => by have := hD.tX; have := hD.tL; subst e; omega
 have nOL : ob ≠ lb := fun e => by have := hD.tO; have := hD.tL; subst e; omega
 have nOX := nXO.symm
 have nLX := nXL.symm
 have nLO := nOL.symm
 clear ih ho hne hFb hG h0 hk hw hcw
 go_enter Tryz.func198, Tryz.ntmps198
 obtain ⟨w1, hw1⟩ : ∃ w1, W.setCell ⟨X, 1, none⟩ (.int .i64 ((cn : Int) + 1)) = w1 := ⟨_, rfl⟩
 have hD1 : DM w1 base X Y ob lb gb n mv tag { s with cnt := cn + 1 } so po co sc pc cc rows := by
  rw [← hw1]
  exact hD.setX 1 _ (s' := { s with cnt := cn + 1 }) (by simp) (by omega) hD.st rfl rfl rfl rfl
 have k01 : Keep (fun j => tag j < 7) W w1 := by rw [← hw1]; exact (keep_set _ _ _ _).mono (fun j _ e => by subst e; rw [hD.tX]; omega)
 go_wp2_with fail
 try rw [hw1]
 have y1 := hD1.head.cell (i := 1) rfl
 have y2 := hD1.head.cell (i := 2) rfl
 have y3 := hD1.head.cell (i := 3) rfl
 have y1' : w1.cell? ⟨X, 1, none⟩ = some (.int .i64 ((cn : Int) + 1)) := y1
 have p0 := hD1.ord.cell (fints_get s.ord hx)
 have q0 := hD1.low.cell (fints_get s.low hx)
 have gO := hD1.ord.frozen x none
 have gL := hD1.low.frozen x none
 have hz := hD1.szX
 have HD1 := Lib.hid hD1
 have HK01 := Lib.hid k01
 clear x0 x1 x2 x3 fX o0 l0 fO fL hcn hw1 hD hD1 k01 y1
 go_region
 obtain ⟨w2, hw2⟩ : ∃ w2, ((w1.setCell ⟨ob, x, none⟩ (.int .i64 ((cn : Int) + 1))).setCell ⟨lb, x, none⟩ (.int .i64 ((cn : Int) + 1))).drew = w2 := ⟨_, rfl⟩
 have hD2 : DM w2 base X Y ob lb gb n mv tag (s.enter x) so po co sc pc cc rows := by
  rw [← hw2]
  have h1 := ((HD1.out.setO x (cn + 1) hx).setL x (cn + 1) hx).keepN ((Keep.refl Nb _).drew)
  unfold DS.enter
  rw [HCN.out]
  exact h1
 have k12 : Keep (fun j => tag j < 7) W w2 := by
  rw [← hw2]
  have h1 : Keep (fun j => tag j < 7) w1 (w1.setCell ⟨ob, x, none⟩ (.int .i64 ((cn : Int) + 1))) := (keep_set _ _ _ _).mono (fun j _ e => by subst e; rw [hD2.tO]; omega)
  have h2 : Keep (fun j => tag j < 7) (w1.setCell ⟨ob, x, none⟩ (.int .i64 ((cn : Int) + 1))) ((w1.setCell ⟨ob, x, none⟩ (.int .i64 ((cn : Int) + 1))).setCell ⟨lb, x, none⟩ (.int .i64 ((cn : Int) + 1))) := (keep_set _ _ _ _).mono (fun j _ e => by subst e; rw [hD2.tL]; omega)
  exact ((HK01.out.trans h1).trans h2).drew
 have hG2 : Gr F w2 gb n es := HG.out.keep k12 (fun j hj e => by have := HFB.out j hj; have := (hD2.lt j e).1; omega)
 rw [hw2]
 have z0 := hD2.head.cell (i := 0) rfl
 have HAT := Lib.hid (at_any F w2 gb n es x hG2 hx (by omega))
 have HD2 := Lib.hid hD2
 have HK2 := Lib.hid k12
 clear hD2 k12 hG2 hw2 y2 y3 y1' p0 q0 gO gL hz HD1 HK01
 go_wp2_with fail
 refine HAT.out.mono ?_
 rintro e0 w3 ⟨o, c, rfl, hS3, hk3⟩
 obtain ⟨m, hm⟩ : ∃ m, (es.filter (kp x)).length = m := ⟨_, rfl⟩
 rw [hm] at hS3 ⊢
 have hm120 : m ≤ 120 := by rw [← hm]; exact Nat.le_trans (List.length_filter_le _ _) hl
 have HM := Lib.hid hm
 have HS3 := Lib.hid hS3
 have HL0 : Hid (DLoop w3 w3 base X Y ob lb gb n mv es tag s x by_ 0 0 (s.enter x) tag so po co sc pc cc rows) := Lib.hid
  ⟨fun s' r => r, HD2.out.keepN hk3, fun _ _ => rfl, Keep.refl _ _, Nat.le_refl _, by omega⟩
 have HK3 := Lib.hid (HK2.out.trans hk3.of_nb)
 have HZ3 : Hid (∀ j, tag j < 7 → j < w2.heap.size) := Lib.hid (fun j hj => (HD2.out.lt j hj).2)
 clear hS3 hk3 hm z0 HAT
 go_wp2_with fail
 go_loopg [6, 51] m (fun kx s6 s51 wr => ∃ (i ch : Nat) (si : DS) (tagi : Nat → Nat) (soi poi coi : Option Addr) (sci pci cci : Nat) (rowsi : List Rw), s6 = .int .i64 ch ∧ s51 = .int .i64 i ∧ i ≤ m ∧ m - i ≤ kx ∧ ch ≤ i ∧ Hid (DLoop w3 wr base X Y ob lb gb n mv es tag s x by_ i ch si tagi soi poi coi sci pci cci rowsi))
 case atStart => exact ⟨0, 0, _, _, _, _, _, _, _, _, _, rfl, rfl, Nat.zero_le _, by omega, Nat.le_refl _, HL0⟩
 case round =>
  clear HL0
  obtain ⟨i, ch, si, tagi, soi, poi, coi, sci, pci, cci, rowsi, rfl, rfl, hi, hg, hch, HR⟩ := hrel
  by_cases hlt : i < m
  ·obtain ⟨e, hy⟩ : ∃ e, (es.filter (kp x))[i]? = some e := ⟨_, List.getElem?_eq_getElem (by rw [HM.out]; exact hlt)⟩
   have hee := List.mem_filter.1 (List.mem_of_getElem? hy)
   have hoe := HO.out e hee.1
   have HDR : Hid ((es.filter (kp x)).drop i = e :: (es.filter (kp x)).drop (i + 1)) := Lib.hid (by
    rw [List.drop_eq_getElem_cons (by rw [HM.out]; exact hlt)]
    have := List.getElem?_eq_getElem (l := es.filter (kp x)) (by rw [HM.out]; exact hlt)
    rw [hy] at this; cases this; rfl)
   obtain ⟨ge, rfl, hFe, hnc, hrow⟩ := (HS3.out.keep HR.out.keep (fun j hj e => by have := HZ3.out j e; have hj : w2.heap.size ≤ j := hj; omega)).pos (by omega)
   have d1 := hrow.edges.id _ _ hy
   have d2 := hrow.edges.a _ _ hy
   have d3 := hrow.edges.b _ _ hy
   obtain ⟨y, hyy⟩ : ∃ y, (if e.a = x then e.b else e.a) = y := ⟨_, rfl⟩
   have HYY : Hid (othE e x = y) := Lib.hid hyy
   have HYX : Hid (y ≠ x) := Lib.hid (by rw [← HYY.out]; exact othE_ne (HNE.out e hee.1) (by have := hee.2; unfold kp at this; simpa [touch] using this))
   have hyn : y < n := by rw [← hyy]; split; exact hoe.2; exact hoe.1
   obtain ⟨Z, hZ⟩ : ∃ Z, wr.heap.size = Z := ⟨_, rfl⟩
   obtain ⟨wz, hwz⟩ : ∃ wz, wr.alloc (.cells #[.int .i64 e.id, .int .i64 e.a, .int .i64 e.b] 125) = wz := ⟨_, rfl⟩
   have kz : Keep Nb wr wz := by rw [← hwz]; exact (Keep.refl Nb wr).alloc _
   have hrZ : Row wz Z 125 (ecells e) := by rw [← hwz, ← hZ]; exact Row.new wr #[.int .i64 e.id, .int .i64 e.a, .int .i64 e.b] 125
   have hzz : wz.heap.size = Z + 1 := by rw [← hwz, ← hZ]; simp
   have HOT := Lib.hid (other_any wz e.id e.a e.b x)
   rw [hyy] at HOT
   have v0 := hrZ.cell (i := 0) rfl
   have v1 := hrZ.cell (i := 1) rfl
   have v2 := hrZ.cell (i := 2) rfl
   have HRZ := Lib.hid hrZ
   have HKZ := Lib.hid kz
   have HZZ := Lib.hid (And.intro hZ hzz)
   clear hee hoe hrow hyy kz hrZ hzz hy
   go_upto_region 7 with (fail)
   clear hwz hZ d1 d2 d3
   go_wp2_with fail
   refine HOT.out.mono ?_
   rintro e1 w4 ⟨rfl, hk4⟩
   have hkr4 := HKZ.out.trans hk4
   have hD4 := HR.out.dm.keepN hkr4
   have hZ4 := HRZ.out.keep hk4 (fun e => e)
   have u0 := hZ4.cell (i := 0) rfl
   have x2 := hD4.head.cell (i := 2) rfl
   have x3 := hD4.head.cell (i := 3) rfl
   have x4 := hD4.head.cell (i := 4) rfl
   have oy := hD4.ord.cell (fints_get si.ord hyn)
   have ox := hD4.ord.cell (fints_get si.ord hx)
   obtain ⟨vy, hvy⟩ : ∃ v, si.ord y = v := ⟨_, rfl⟩
   obtain ⟨vx, hvx⟩ : ∃ v, si.ord x = v := ⟨_, rfl⟩
   rw [hvy] at oy
   rw [hvx] at ox
   have HV : Hid (si.ord y = vy ∧ si.ord x = vx) := Lib.hid ⟨hvy, hvx⟩
   have HD4 := Lib.hid hD4
   have HK4 := Lib.hid hkr4
   have HU4 := Lib.hid hZ4
   clear v0 v1 v2 hk4 hkr4 hD4 hZ4 hvy hvx HOT HRZ HKZ
   by_cases hb : (e.id : Int) = by_
   ·have b1 : ((e.id : Int) == by_) = true := by simp [hb]
    have HN : Hid (DLoop w3 w4 base X Y ob lb gb n mv es tag s x by_ (i + 1) ch si tagi soi poi coi sci pci cci rowsi) := Lib.hid
     ⟨fun s' r => HR.out.run s' (by rw [HDR.out]; exact .skip hb r), HD4.out, HR.out.same, HR.out.lt7 HK4.out (fun _ e => e.elim), HR.out.un, by have := HR.out.bd; omega⟩
    clear hb
    go_wp2_with fail
    go_roundg (m - (i + 1))
    case measure => omega
    case rel => exact ⟨i + 1, ch, _, _, _, _, _, _, _, _, _, rfl, by go_num, by omega, Nat.le_refl _, by omega, HN⟩
   ·have b1 : ((e.id : Int) == by_) = false := by simp [hb]
    have HBY := Lib.hid hb
    clear hb
    by_cases hv : vy = 0
    ·as_aux_lemma =>
     have b2 : ((vy : Int) == 0) = true := by simp; omega
     have HVZ := Lib.hid hv
     clear hv
     have t1 := x4
     have ta := (HD4.out.keepN (((Keep.refl Nb w4).alloc (.cells #[.int .i64 e.id] 3)).drew)).head.cell (i := 4) rfl
     have ua := (((Keep.refl Nb w4).alloc (.cells #[.int .i64 e.id] 3)).drew).cell u0 (fun e => e)
     have hD6 := HD4.out.keepN ((Keep.refl Nb w4).drew)
     have hstl : wt si ≤ 100000 := by
      have h1 := HR.out.bd
      have h2 := unv_enter hx H0.out.1
      have h3 := wt_enter s x
      have h4 := H0.out.2.2
      omega
     have hst2 : si.st.length ≤ 100000 ∧ si.ps.length ≤ 100000 ∧ si.cuts.length ≤ 100000 := by unfold wt at hstl; omega
     obtain ⟨gq, cq, w6, r1, r2, r3, r4⟩ := run_app1 (P := Tryz.prog) 63 63 3 Tryz.underlying63 elem_int rfl hD6.st (.int .i64 e.id) rfl (by omega) (by omega)
     have hbz : base ≤ w4.drew.heap.size := by have := (hD6.lt X (by rw [hD6.tX]; omega)); omega
     obtain ⟨tagN, hsame, hDN⟩ := hD6.pushS hbz r2 r3
     have nbX : ¬ Bl soi X := fun ⟨a, ha, hb⟩ => by
      have h1 := hD6.st.foot a ha
      have h2 := hD6.tX
      rw [hb] at h1; have h1 : tagi X = 4 := h1; omega
     have hX6 := hD6.head.keep r3 nbX
     have t5 := hX6.cell (i := 4) rfl
     have hZ7t : ¬ tagi Z < 7 := fun h => by have h1 := HR.out.dm.lt Z h; have h2 := HZZ.out.1; omega
     have hXZ : X ≠ Z := fun e => by rw [← e, hD6.tX] at hZ7t; omega
     have u6 : w6.cell? ⟨Z, 0, none⟩ = some (.int .i64 e.id) := r3.cell u0 (fun ⟨a, ha, hb⟩ => by
      have h1 := hD6.st.foot a ha
      have hb : a.block = Z := hb
      rw [hb] at h1; have h1 : tagi Z = 4 := h1; omega)
     clear hZ7t
     have f5 := hX6.frozen 4 none
     have hl5 := hX6.lt
     have hz2 : w4.drew.heap.size = w4.heap.size := rfl
     rw [hz2] at r1 hsame
     have H1 := Lib.hid r1
     have HDN := Lib.hid hDN
     have k47 : Keep (fun j => tagi j < 7) w4 (w6.setCell ⟨X, 4, none⟩ (.slice (some ⟨gq, 0, none⟩) (si.st.length + 1) cq)) :=
      ((Keep.refl (fun j => tagi j < 7) w4).drew.trans' r3 (fun _ _ e => e) (fun j _ ⟨a, ha, hb⟩ => by
       have h1 := hD6.st.foot a ha
       rw [hb] at h1; have h1 : tagi j = 4 := h1; omega)).trans' (keep_set _ _ _ _) (fun _ _ e => e) (fun j _ e => by rw [e, hD6.tX]; omega)
     have HK7 := Lib.hid k47
     have HSM := Lib.hid hsame
     have mixed : (Tryz.prog).follows Departure.mixedOrders = true := by kernel_rfl
     obtain ⟨w7, hw7⟩ : ∃ w7, w6.setCell ⟨X, 4, none⟩ (.slice (some ⟨gq, 0, none⟩) (si.st.length + 1) cq) = w7 := ⟨_, rfl⟩
     rw [hw7] at HDN HK7
     have HZT : Hid (¬ tagi Z < 7) := Lib.hid (fun h => by have h1 := HR.out.dm.lt Z h; have h2 := HZZ.out.1; omega)
     have HSZ : Hid (w3.heap.size ≤ w4.heap.size ∧ wr.heap.size ≤ w4.heap.size) := Lib.hid ⟨by have z1 := HR.out.keep.size; have z2 := HK4.out.size; omega, HK4.out.size⟩
     have HWT := Lib.hid hst2
     clear r1 r2 r3 r4 hDN hD6 hX6 k47 hbz hsame hz2 hstl
     go_upto_region 12 with (fail)
     go_cut [79] (fun _ wc => wc = w7)
     case first =>
      refine beginZ (S := (fun w' => w'.cell? ⟨Z, 0, none⟩ = some (.int .i64 e.id) ∧ w'.cell? ⟨X, 4, none⟩ = some (.slice soi si.st.length sci))) (z := 11) (by kernel_rfl) ?_ (fun hHeld => ?_)
      ·go_keep
      refine yesZ (i := 0) [9, 10, 11] (d := some 79) (v := ?_) rfl (by kernel_rfl) (by kernel_rfl) (by kernel_rfl) (by kernel_rfl) (by kernel_rfl) (fun _ _ _ h => h) (by kernel_rfl) ?_ (by assumption) ?_
      rotate_left
      ·(intro w hSw; clear hSw; go_simp; try (with_reducible rfl))
      try simp only [Act.put, List.setIfInBounds_toArray, List.set_cons_zero, List.set_cons_succ]
      refine yesZ (i := 1) [2, 3, 4, 8, 11] (d := some 80) (v := ?_) rfl (by kernel_rfl) (by kernel_rfl) (by kernel_rfl) (by kernel_rfl) (by kernel_rfl) (fun _ _ _ h => h) (by kernel_rfl) ?_ (by assumption) ?_
      rotate_left
      ·(intro w hSw; clear hSw; go_simp; try (with_reducible rfl))
      try simp only [Act.put, List.setIfInBounds_toArray, List.set_cons_zero, List.set_cons_succ]
      refine yesZ (i := 2) [3, 4, 8, 11] (d := some 81) (v := ?_) rfl (by kernel_rfl) (by kernel_rfl) (by kernel_rfl) (by kernel_rfl) (by kernel_rfl) (fun _ _ _ h => h) (by kernel_rfl) ?_ (by assumption) ?_
      rotate_left
      ·(intro w hSw; clear hSw; go_simp; try (with_reducible rfl))
      try simp only [Act.put, List.setIfInBounds_toArray, List.set_cons_zero, List.set_cons_succ]
      refine yesZ (i := 3) [4, 8, 11] (d := some 82) (v := ?_) rfl (by kernel_rfl) (by kernel_rfl) (by kernel_rfl) (by kernel_rfl) (by kernel_rfl) (fun _ _ _ h => h) (by kernel_rfl) ?_ (by assumption) ?_
      rotate_left
      ·(intro w hSw; clear hSw; go_simp; try (with_reducible rfl))
      try simp only [Act.put, List.setIfInBounds_toArray, List.set_cons_zero, List.set_cons_succ]
      refine yesZ (i := 4) [8, 11] (d := some 83) (v := ?_) rfl (by kernel_rfl) (by kernel_rfl) (by kernel_rfl) (by kernel_rfl) (by kernel_rfl) (fun _ _ _ h => h) (by kernel_rfl) ?_ (by assumption) ?_
      rotate_left
      ·(intro w hSw; (try dsimp only at hSw); go_simp; try (with_reducible rfl))
      try simp only [Act.put, List.setIfInBounds_toArray, List.set_cons_zero, List.set_cons_succ]
      refine yesZ (i := 5) [6, 7, 8, 11] (d := some 84) (v := ?_) rfl (by kernel_rfl) (by kernel_rfl) (by kernel_rfl) (by kernel_rfl) (by kernel_rfl) (fun _ _ _ h => h) (by kernel_rfl) ?_ (by assumption) ?_
      rotate_left
      ·(intro w hSw; clear hSw; go_simp; try (with_reducible rfl))
      try simp only [Act.put, List.setIfInBounds_toArray, List.set_cons_zero, List.set_cons_succ]
      refine yesZ (i := 6) [7, 8, 11] (d := some 85) (v := ?_) rfl (by kernel_rfl) (by kernel_rfl) (by kernel_rfl) (by kernel_rfl) (by kernel_rfl) (fun _ _ _ h => h) (by kernel_rfl) ?_ (by assumption) ?_
      rotate_left
      ·(intro w hSw; (try dsimp only at hSw); go_simp; try (with_reducible rfl))
      try simp only [Act.put, List.setIfInBounds_toArray, List.set_cons_zero, List.set_cons_succ]
      refine oneZ (i := 7) (by kernel_rfl) rfl (fun K hK => ?_)
      go_simp
      refine hK.out _ _ ?_ (fun hHeld => ?_)
      ·go_keep
      clear hK K
      try simp only [Act.put, List.setIfInBounds_toArray, List.set_cons_zero, List.set_cons_succ]
      refine oneZ (i := 8) (by kernel_rfl) rfl (fun K hK => ?_)
      refine step_app_run rfl _ _ 63 63 rfl (.slice soi si.st.length sci) (.slice (some ⟨w4.heap.size, 0, none⟩) 1 1) (by simp [Act.eval, Act.put]) (by simp [Act.eval, Act.put]) H1.out ?_
      refine hK.out _ _ ?_ (fun hHeld => ?_)
      ·go_keep
      clear hK K
      try simp only [Act.put, List.setIfInBounds_toArray, List.set_cons_zero, List.set_cons_succ]
      refine yesZ (i := 9) [10, 11] (d := some 88) (v := ?_) rfl (by kernel_rfl) (by kernel_rfl) (by kernel_rfl) (by kernel_rfl) (by kernel_rfl) (fun _ _ _ h => h) (by kernel_rfl) ?_ (by assumption) ?_
      rotate_left
      ·(intro w hSw; clear hSw; go_simp; try (with_reducible rfl))
      try simp only [Act.put, List.setIfInBounds_toArray, List.set_cons_zero, List.set_cons_succ]
      refine yesZ (i := 10) [11] (d := some 89) (v := ?_) rfl (by kernel_rfl) (by kernel_rfl) (by kernel_rfl) (by kernel_rfl) (by kernel_rfl) (fun _ _ _ h => h) (by kernel_rfl) ?_ (by assumption) ?_
      rotate_left
      ·(intro w hSw; clear hSw; go_simp; try (with_reducible rfl))
      try simp only [Act.put, List.setIfInBounds_toArray, List.set_cons_zero, List.set_cons_succ]
      refine lastZ (i := 11) (by kernel_rfl) rfl (by kernel_rfl) rfl (fun K hK => ?_)
      go_simp
      refine hK.out _ _ ?_
      clear hK K
      all_goals
       (try go_wp2_with fail)
       go_meet
       first | exact rfl | exact hw7
     case rest =>
      have hcut' : wc = w7 := hcut
      subst hcut'
      have hZ7 := HU4.out.keep HK7.out HZT.out
      have u7 := hZ7.cell (i := 0) rfl
      have HK37 : Hid (Keep (fun j => tag j < 7) w3 wc) := Lib.hid (HR.out.lt7 (HK4.out.of_nb.trans HK7.out) (fun j e => .inl e))
      have hG7 : Gr F wc gb n es := HG.out.keep (HK3.out.trans HK37.out) (fun j hj e => by have := HFB.out j hj; have := (HD.out.lt j e).1; omega)
      have HREC := Lib.hid (HIH.out wc tagN (si.pushE e.id) (some ⟨gq, 0, none⟩) poi coi cq pci cci rowsi y e.id hyn (by show si.ord y = 0; rw [HV.out.1]; exact HVZ.out)
       (by have h1 := HR.out.un; have h2 := unv_enter hx H0.out.1; have h3 := H0.out.2.1; show unv n si ≤ k; omega)
       (by have h1 := HR.out.bd; have h2 := unv_enter hx H0.out.1; have h3 := wt_enter s x; have h4 := H0.out.2.2; have h5 := wt_push si e.id; have h6 : unv n (si.pushE e.id) = unv n si := rfl; rw [h6]; omega) HDN.out hG7)
      have HU7 := Lib.hid hZ7
      clear hZ7 hG7 hw7 ta ua t1 t5 f5 hl5 u0 x4 x2 x3 oy ox u6 hXZ
      go_wp2_with fail
      refine HREC.out.mono ?_
      rintro e5 w8 ⟨rfl, s1, tag8, so8, po8, co8, sc8, pc8, cc8, rows8, hrun, hD8, hsame8, hk8, hun8, hbd8⟩
      have HRUN := Lib.hid hrun
      have HD8 := Lib.hid hD8
      have HSM8 := Lib.hid hsame8
      have HK8 := Lib.hid hk8
      have HUB := Lib.hid (And.intro hun8 hbd8)
      have x2 := hD8.head.cell (i := 2) rfl
      have x3 := hD8.head.cell (i := 3) rfl
      obtain ⟨lv, hlv⟩ : ∃ lv, s1.low x = lv := ⟨_, rfl⟩
      obtain ⟨ly, hly⟩ : ∃ ly, s1.low y = ly := ⟨_, rfl⟩
      have lx := hD8.low.cell (fints_get s1.low hx)
      have lyc := hD8.low.cell (fints_get s1.low hyn)
      have fL := hD8.low.frozen x none
      rw [hlv] at lx
      rw [hly] at lyc
      have HLV := Lib.hid (And.intro hlv hly)
      clear hrun hD8 hsame8 hk8 hun8 hbd8 hlv hly u7 HREC
      go_wp2_with fail
      go_region
      obtain ⟨w9, hw9⟩ : ∃ w9, (w8.setCell ⟨lb, x, none⟩ (.int .i64 (min (lv : Int) (ly : Int)))).drew = w9 := ⟨_, rfl⟩
      have hD9 : DM w9 base X Y ob lb gb n mv tag8 (s1.lower x ly) so8 po8 co8 sc8 pc8 cc8 rows8 := by rw [← hw9]; exact HD8.out.lowered hx HLV.out.1
      have hk9 : Keep (fun j => tag8 j < 7) w8 w9 := by rw [← hw9]; exact HD8.out.keepL x _
      rw [hw9]
      have HSM9 : Hid ((∀ j, j < w3.heap.size → tag8 j = tag j) ∧ Keep (fun j => tag j < 7) w3 w9 ∧ w3.heap.size ≤ w9.heap.size) := Lib.hid (by
       have z3 := HK37.out.size
       have e1 : ∀ j, j < w3.heap.size → tagN j = tag j := fun j hj => by rw [HSM.out j (by have := HSZ.out.1; omega), HR.out.same j hj]
       have e2 : ∀ j, j < w3.heap.size → tag8 j = tag j := fun j hj => by rw [HSM8.out j (by omega), e1 j hj]
       have k1 := keep_chain (keep_chain HK37.out HK8.out e1) hk9 e2
       exact ⟨e2, k1, k1.size⟩)
      have x2 := hD9.head.cell (i := 2) rfl
      have x3 := hD9.head.cell (i := 3) rfl
      have e9 : (s1.lower x ly).low y = ly := by
       show upd s1.low x _ y = ly
       rw [upd_ne _ _ _ _ HYX.out]; exact HLV.out.2
      have lyc := hD9.low.cell (fints_get (s1.lower x ly).low hyn)
      rw [e9] at lyc
      have oxc := hD9.ord.cell (fints_get (s1.lower x ly).ord hx)
      obtain ⟨vx1, hvx1⟩ : ∃ v, (s1.lower x ly).ord x = v := ⟨_, rfl⟩
      rw [hvx1] at oxc
      have HVX : Hid (s1.ord x = vx1) := Lib.hid hvx1
      have HD9 := Lib.hid hD9
      clear lx fL e9 hvx1 hw9 hD9 hk9 HD8 HK8 HDN HK7
      by_cases hge : vx1 ≤ ly
      ·as_aux_lemma =>
       have b4 : (vx1 : Int) ≤ (ly : Int) := by omega
       have HGE := Lib.hid hge
       clear hge
       go_wp2_with fail
       go_quiet (fail)
       obtain ⟨w10, hw10⟩ : ∃ w10, w9.drewN nq = w10 := ⟨_, rfl⟩
       have k10 : Keep Nb w9 w10 := by rw [← hw10]; exact (Keep.refl Nb w9).drewN nq
       have hD10 := HD9.out.keepN k10
       rw [hw10]
       have hlen := run_st HRUN.out
       have hlen2 : (si.pushE e.id).st.length = si.st.length + 1 := by unfold DS.pushE; simp
       obtain ⟨at_, hat⟩ : ∃ a, si.st.length = a := ⟨_, rfl⟩
       rw [hat]
       obtain ⟨ln, hln⟩ : ∃ a, (s1.lower x ly).st.length = a := ⟨_, rfl⟩
       obtain ⟨pn, hpn⟩ : ∃ a, (s1.lower x ly).ps.length = a := ⟨_, rfl⟩
       obtain ⟨cn2, hcn2⟩ : ∃ a, (s1.lower x ly).cuts.length = a := ⟨_, rfl⟩
       have hal : at_ < ln := by rw [← hat, ← hln]; show si.st.length < s1.st.length; omega
       have hwt1 : wt s1 ≤ 100000 := by
        have h1 := HUB.out.2
        have h2 := HR.out.bd
        have h3 := unv_enter hx H0.out.1
        have h4 := wt_enter s x
        have h5 := H0.out.2.2
        have h6 := wt_push si e.id
        have h7 : unv n (si.pushE e.id) = unv n si := rfl
        rw [h6, h7] at h1
        omega
       have hbnd : ln ≤ 100000 ∧ pn ≤ 100000 ∧ cn2 ≤ 100000 := by
        have e1 : s1.st.length = ln := hln
        have e2 : s1.ps.length = pn := hpn
        have e3 : s1.cuts.length = cn2 := hcn2
        unfold wt at hwt1; omega
       have hst := hD10.st
       rw [hln] at hst
       obtain ⟨sb, rfl, hsb4, hlnc, hsrow⟩ := hst.pos (by omega)
       have x4 := hD10.head.cell (i := 4) rfl
       have x5 := hD10.head.cell (i := 5) rfl
       have y1 := hD10.bl.cell (i := 1) rfl
       rw [hln] at x4
       rw [hpn] at y1
       have HAT := Lib.hid (And.intro hat (And.intro hln (And.intro hpn hcn2)))
       have HCL : Hid (∀ wx, Keep Nb w10 wx → Calls Tryz.prog 170 #[.slice (some ⟨sb, at_, none⟩) (ln - at_) (sc8 - at_)] wx fun e w' => ∃ q c', e = .returned (.slice (some ⟨q, 0, none⟩) (ln - at_) c') ∧ Sl (fun k => wx.heap.size ≤ k) w' 3 1 (some ⟨q, 0, none⟩) (ln - at_) c' (ints ((s1.lower x ly).st.drop at_)) ∧ Keep Nb wx w') := Lib.hid (fun wx kx =>
        cloneI_any wx sb at_ (ln - at_) (sc8 - at_) ((s1.lower x ly).st.drop at_) (by rw [List.length_drop, hln]) (by omega) (by omega) (fun j z hz => by
         rw [List.getElem?_drop] at hz
         exact kx.cell (hsrow.cell (ints_get hz)) (fun e => e)))
       have HD10 := Lib.hid hD10
       have HK10 := Lib.hid k10
       have HBN := Lib.hid hbnd
       have hY10 := hD10.bl
       have HY10 := Lib.hid hY10
       have nbY : ¬ Bl po8 Y := fun ⟨a, ha, hb⟩ => by
        have h1 := hD10.ps.out.foot a ha
        have h2 := hD10.tY
        rw [hb] at h1; have h1 : tag8 Y = 6 := h1; omega
       have HNBY := Lib.hid nbY
       have hbz : base ≤ w10.heap.size := by have := (hD10.lt X (by rw [hD10.tX]; omega)); omega
       have HBZ := Lib.hid hbz
       have HLN2 : Hid ((s1.lower x ly).st.length = ln) := HAT.out.2.1 |> Lib.hid
       have hYX : Y ≠ X := fun e => by have h1 := HD9.out.tX; have h2 := HD9.out.tY; rw [e] at h2; omega
       have hz3 : (0 : Int) ≤ (at_ : Int) := by omega
       have hz5 : at_ ≤ ln := by omega
       have hz4 : (at_ : Int) ≤ (ln : Int) := by omega
       have hz6 : (ln : Int) ≤ (sc8 : Int) := by omega
       have hz7 : (at_ : Int) ≤ (sc8 : Int) := by omega
       have hkc : sc8 ≠ at_ := by omega
       have mixed : (Tryz.prog).follows Departure.mixedOrders = true := by kernel_rfl
       clear hD10 k10 hw10 hlen hlen2 hat hln hpn hcn2 hwt1 hst hsb4 hsrow hY10 nbY hbz x2 x3 lyc oxc
       go_upto_region 16 with (fail)
       go_cut [131] (fun _ wc => ∃ (tagC : Nat → Nat) (gC pcC : Nat) (rowsC : List Rw), Hid (DM wc base X Y ob lb gb n mv tagC { s1.lower x ly with ps := (s1.lower x ly).ps ++ [(s1.lower x ly).st.drop at_] } (some ⟨sb, 0, none⟩) (some ⟨gC, 0, none⟩) co8 sc8 pcC cc8 rowsC ∧ (∀ j, j < w10.heap.size → tagC j = tag8 j) ∧ Keep (fun j => tag8 j < 7) w10 wc))
       case first =>
        refine beginZ (S := (fun w' => w'.cell? ⟨X, 5, none⟩ = some (.pointer (some ⟨Y, 0, none⟩)) ∧ w'.cell? ⟨X, 4, none⟩ = some (.slice (some ⟨sb, 0, none⟩) ln sc8) ∧ w'.cell? ⟨Y, 1, none⟩ = some (.slice po8 pn pc8))) (z := 22) (by kernel_rfl) ?_ (fun hHeld => ?_)
        ·go_keep
        refine yesZ (i := 0) [1, 2, 3, 20, 21, 22] (d := some 131) (v := ?_) rfl (by kernel_rfl) (by kernel_rfl) (by kernel_rfl) (by kernel_rfl) (by kernel_rfl) (fun _ _ _ h => h) (by kernel_rfl) ?_ (by assumption) ?_
        rotate_left
        ·(intro w hSw; clear hSw; go_simp; try (with_reducible rfl))
        try simp only [Act.put, List.setIfInBounds_toArray, List.set_cons_zero, List.set_cons_succ]
        refine yesZ (i := 1) [2, 3, 20, 21, 22] (d := some 132) (v := ?_) rfl (by kernel_rfl) (by kernel_rfl) (by kernel_rfl) (by kernel_rfl) (by kernel_rfl) (fun _ _ _ h => h) (by kernel_rfl) ?_ (by assumption) ?_
        rotate_left
        ·(intro w hSw; clear hSw; go_simp; try (with_reducible rfl))
        try simp only [Act.put, List.setIfInBounds_toArray, List.set_cons_zero, List.set_cons_succ]
        refine yesZ (i := 2) [3, 20, 21, 22] (d := some 133) (v := ?_) rfl (by kernel_rfl) (by kernel_rfl) (by kernel_rfl) (by kernel_rfl) (by kernel_rfl) (fun _ _ _ h => h) (by kernel_rfl) ?_ (by assumption) ?_
        rotate_left
        ·(intro w hSw; clear hSw; go_simp; try (with_reducible rfl))
        try simp only [Act.put, List.setIfInBounds_toArray, List.set_cons_zero, List.set_cons_succ]
        refine yesZ (i := 3) [20, 21, 22] (d := some 134) (v := ?_) rfl (by kernel_rfl) (by kernel_rfl) (by kernel_rfl) (by kernel_rfl) (by kernel_rfl) (fun _ _ _ h => h) (by kernel_rfl) ?_ (by assumption) ?_
        rotate_left
        ·(intro w hSw; (try dsimp only at hSw); go_simp; try (with_reducible rfl))
        try simp only [Act.put, List.setIfInBounds_toArray, List.set_cons_zero, List.set_cons_succ]
        refine yesZ (i := 4) [5, 6, 7, 8, 9, 10, 19, 22] (d := some 135) (v := ?_) rfl (by kernel_rfl) (by kernel_rfl) (by kernel_rfl) (by kernel_rfl) (by kernel_rfl) (fun _ _ _ h => h) (by kernel_rfl) ?_ (by assumption) ?_
        rotate_left
        ·(intro w hSw; clear hSw; go_simp; try (with_reducible rfl))
        try simp only [Act.put, List.setIfInBounds_toArray, List.set_cons_zero, List.set_cons_succ]
        refine yesZ (i := 5) [6, 7, 8, 9, 10, 19, 22] (d := some 136) (v := ?_) rfl (by kernel_rfl) (by kernel_rfl) (by kernel_rfl) (by kernel_rfl) (by kernel_rfl) (fun _ _ _ h => h) (by kernel_rfl) ?_ (by assumption) ?_
        rotate_left
        ·(intro w hSw; clear hSw; go_simp; try (with_reducible rfl))
        try simp only [Act.put, List.setIfInBounds_toArray, List.set_cons_zero, List.set_cons_succ]
        refine yesZ (i := 6) [7, 8, 9, 10, 19, 22] (d := some 137) (v := ?_) rfl (by kernel_rfl) (by kernel_rfl) (by kernel_rfl) (by kernel_rfl) (by kernel_rfl) (fun _ _ _ h => h) (by kernel_rfl) ?_ (by assumption) ?_
        rotate_left
        ·(intro w hSw; clear hSw; go_simp; try (with_reducible rfl))
        try simp only [Act.put, List.setIfInBounds_toArray, List.set_cons_zero, List.set_cons_succ]
        refine yesZ (i := 7) [8, 9, 10, 19, 22] (d := some 138) (v := ?_) rfl (by kernel_rfl) (by kernel_rfl) (by kernel_rfl) (by kernel_rfl) (by kernel_rfl) (fun _ _ _ h => h) (by kernel_rfl) ?_ (by assumption) ?_
        rotate_left
        ·(intro w hSw; (try dsimp only at hSw); go_simp; try (with_reducible rfl))
        try simp only [Act.put, List.setIfInBounds_toArray, List.set_cons_zero, List.set_cons_succ]
        refine yesZ (i := 8) [9, 10, 19, 22] (d := some 139) (v := ?_) rfl (by kernel_rfl) (by kernel_rfl) (by kernel_rfl) (by kernel_rfl) (by kernel_rfl) (fun _ _ _ h => h) (by kernel_rfl) ?_ (by assumption) ?_
        rotate_left
        ·(intro w hSw; clear hSw; go_simp; try (with_reducible rfl))
        try simp only [Act.put, List.setIfInBounds_toArray, List.set_cons_zero, List.set_cons_succ]
        refine yesZ (i := 9) [10, 19, 22] (d := some 140) (v := ?_) rfl (by kernel_rfl) (by kernel_rfl) (by kernel_rfl) (by kernel_rfl) (by kernel_rfl) (fun _ _ _ h => h) (by kernel_rfl) ?_ (by assumption) ?_
        rotate_left
        ·(intro w hSw; clear hSw; go_simp; try (with_reducible rfl))
        try simp only [Act.put, List.setIfInBounds_toArray, List.set_cons_zero, List.set_cons_succ]
        refine yesZ (i := 10) [19, 22] (d := some 141) (v := ?_) rfl (by kernel_rfl) (by kernel_rfl) (by kernel_rfl) (by kernel_rfl) (by kernel_rfl) (fun _ _ _ h => h) (by kernel_rfl) ?_ (by assumption) ?_
        rotate_left
        ·(intro w hSw; (try dsimp only at hSw); go_simp; try (with_reducible rfl))
        try simp only [Act.put, List.setIfInBounds_toArray, List.set_cons_zero, List.set_cons_succ]
        refine yesZ (i := 11) [12, 13, 14, 16, 17, 18, 19, 22] (d := some 142) (v := ?_) rfl (by kernel_rfl) (by kernel_rfl) (by kernel_rfl) (by kernel_rfl) (by kernel_rfl) (fun _ _ _ h => h) (by kernel_rfl) ?_ (by assumption) ?_
        rotate_left
        ·(intro w hSw; clear hSw; go_simp; try (with_reducible rfl))
        try simp only [Act.put, List.setIfInBounds_toArray, List.set_cons_zero, List.set_cons_succ]
        refine yesZ (i := 12) [13, 14, 16, 17, 18, 19, 22] (d := some 143) (v := ?_) rfl (by kernel_rfl) (by kernel_rfl) (by kernel_rfl) (by kernel_rfl) (by kernel_rfl) (fun _ _ _ h => h) (by kernel_rfl) ?_ (by assumption) ?_
        rotate_left
        ·(intro w hSw; clear hSw; go_simp; try (with_reducible rfl))
        try simp only [Act.put, List.setIfInBounds_toArray, List.set_cons_zero, List.set_cons_succ]
        refine yesZ (i := 13) [14, 16, 17, 18, 19, 22] (d := some 144) (v := ?_) rfl (by kernel_rfl) (by kernel_rfl) (by kernel_rfl) (by kernel_rfl) (by kernel_rfl) (fun _ _ _ h => h) (by kernel_rfl) ?_ (by assumption) ?_
        rotate_left
        ·(intro w hSw; clear hSw; go_simp; try (with_reducible rfl))
        try simp only [Act.put, List.setIfInBounds_toArray, List.set_cons_zero, List.set_cons_succ]
        refine yesZ (i := 14) [16, 17, 18, 19, 22] (d := some 145) (v := ?_) rfl (by kernel_rfl) (by kernel_rfl) (by kernel_rfl) (by kernel_rfl) (by kernel_rfl) (fun _ _ _ h => h) (by kernel_rfl) ?_ (by assumption) ?_
        rotate_left
        ·(intro w hSw; (try dsimp only at hSw); go_simp; try (with_reducible rfl))
        try simp only [Act.put, List.setIfInBounds_toArray, List.set_cons_zero, List.set_cons_succ]
        refine yesZ (i := 15) [16, 17, 18, 19, 22] (d := some 146) (v := ?_) rfl (by kernel_rfl) (by kernel_rfl) (by kernel_rfl) (by kernel_rfl) (by kernel_rfl) (fun _ _ _ h => h) (by kernel_rfl) ?_ (by assumption) ?_
        rotate_left
        ·(intro w hSw; clear hSw; go_simp; try (with_reducible rfl))
        try simp only [Act.put, List.setIfInBounds_toArray, List.set_cons_zero, List.set_cons_succ]
        refine yesZ (i := 16) [17, 18, 19, 22] (d := some 147) (v := ?_) rfl (by kernel_rfl) (by kernel_rfl) (by kernel_rfl) (by kernel_rfl) (by kernel_rfl) (fun _ _ _ h => h) (by kernel_rfl) ?_ (by assumption) ?_
        rotate_left
        ·(intro w hSw; clear hSw; go_simp; try (with_reducible rfl))
        try simp only [Act.put, List.setIfInBounds_toArray, List.set_cons_zero, List.set_cons_succ]
        refine oneZ (i := 17) (by kernel_rfl) rfl (fun K hK => ?_)
        go_simp; (go_at_call 170; refine (HCL.out _ (show Keep Nb w10 _ from (by (repeat (first | exact Keep.refl _ _ | refine Keep.alloc ?_ _ | refine Keep.drew ?_ | refine Keep.drewN ?_ _))))).mono ?_; rintro e6 wB ⟨qb, cB, rfl, hB, kB⟩; have kB' := Keep.trans (show Keep Nb w10 _ from (by (repeat (first | exact Keep.refl _ _ | refine Keep.alloc ?_ _ | refine Keep.drew ?_ | refine Keep.drewN ?_ _)))) kB; have b4c := kB'.cell x4 (fun e => e); have b5c := kB'.cell x5 (fun e => e); have b1c := kB'.cell y1 (fun e => e); have b5d := (kB'.alloc (.cells #[.slice (some ⟨qb, 0, none⟩) (ln - at_) cB] 63)).cell x5 (fun e => e); have b4d := (kB'.alloc (.cells #[.slice (some ⟨qb, 0, none⟩) (ln - at_) cB] 63)).cell x4 (fun e => e); have b1d := (kB'.alloc (.cells #[.slice (some ⟨qb, 0, none⟩) (ln - at_) cB] 63)).cell y1 (fun e => e); have HB := Lib.hid (hB.mono (G := fun k => w10.heap.size ≤ k) (fun z hz => by have hz : _ ≤ z := hz; have h0 := (show Keep Nb w10 _ from (by (repeat (first | exact Keep.refl _ _ | refine Keep.alloc ?_ _ | refine Keep.drew ?_ | refine Keep.drewN ?_ _)))).size; exact Nat.le_trans h0 hz)); have KB := Lib.hid kB'; obtain ⟨gq2, cq2, w11, r1, r2, r3, r4⟩ := run_app1 (P := Tryz.prog) 134 134 63 (by kernel_rfl) elem_ints (by rfl) (HD10.out.ps.out.keep KB.out (fun _ _ e => e)) (.slice (some ⟨qb, 0, none⟩) (ln - at_) cB) rfl (by have := HBN.out; have := HAT.out.2.2.1; omega) (by omega); rw [HAT.out.2.2.1] at r1; obtain ⟨tagC, hsmC, hDC⟩ := HD10.out.pushP HBZ.out KB.out HB.out r2 r3 r4; have hYb := (HY10.out.keep KB.out (fun e => e)).keep r3 HNBY.out; have cY := hYb.cell (i := 1) rfl; rw [HAT.out.2.2.1] at cY; have hXb := (HD10.out.head.keep KB.out (fun e => e)).keep r3 (fun ⟨a, ha, hb⟩ => by have h1 := HD10.out.ps.out.foot a ha; have h2 := HD10.out.tX; rw [hb] at h1; have h1 : tag8 X = 6 := h1; omega); have c5 := hXb.cell (i := 5) rfl; have c4 := hXb.cell (i := 4) rfl; rw [HLN2.out] at c4; have fY := fun z => hYb.frozen 1 z; have lY := hYb.lt; have KC : Keep (fun j => tag8 j < 7) w10 (w11.setCell ⟨Y, 1, none⟩ (.slice (some ⟨gq2, 0, none⟩) ((s1.lower x ly).ps.length + 1) cq2)) := ((KB.out.of_nb (F := fun j => tag8 j < 7)).trans' r3 (fun _ _ e => e) (fun j _ ⟨a, ha, hb⟩ => by have h1 := HD10.out.ps.out.foot a ha; rw [hb] at h1; have h1 : tag8 j = 6 := h1; omega)).trans' (keep_set _ _ _ _) (fun _ _ e => e) (fun j _ e => by rw [e, HD10.out.tY]; omega); have HNC := Lib.hid (And.intro hDC (And.intro hsmC KC)); rw [HAT.out.2.2.1] at HNC; clear hB kB kB' r2 r3 r4 hDC hsmC KC hYb hXb)
        refine hK.out _ _ ?_ (fun hHeld => ?_)
        ·go_keep
        clear hK K
        try simp only [Act.put, List.setIfInBounds_toArray, List.set_cons_zero, List.set_cons_succ]
        refine oneZ (i := 18) (by kernel_rfl) rfl (fun K hK => ?_)
        go_simp
        refine hK.out _ _ ?_ (fun hHeld => ?_)
        ·go_keep
        clear hK K
        try simp only [Act.put, List.setIfInBounds_toArray, List.set_cons_zero, List.set_cons_succ]
        refine oneZ (i := 19) (by kernel_rfl) rfl (fun K hK => ?_)
        refine step_app_run rfl _ _ 134 134 rfl (.slice po8 pn pc8) (.slice (some ⟨wB.heap.size, 0, none⟩) 1 1) (by simp [Act.eval, Act.put]) (by simp [Act.eval, Act.put]) r1 ?_
        refine hK.out _ _ ?_ (fun hHeld => ?_)
        ·go_keep
        clear hK K
        try simp only [Act.put, List.setIfInBounds_toArray, List.set_cons_zero, List.set_cons_succ]
        refine yesZ (i := 20) [21, 22] (d := some 151) (v := ?_) rfl (by kernel_rfl) (by kernel_rfl) (by kernel_rfl) (by kernel_rfl) (by kernel_rfl) (fun _ _ _ h => h) (by kernel_rfl) ?_ (by assumption) ?_
        rotate_left
        ·(intro w hSw; clear hSw; go_simp; try (with_reducible rfl))
        try simp only [Act.put, List.setIfInBounds_toArray, List.set_cons_zero, List.set_cons_succ]
        refine yesZ (i := 21) [22] (d := some 152) (v := ?_) rfl (by kernel_rfl) (by kernel_rfl) (by kernel_rfl) (by kernel_rfl) (by kernel_rfl) (fun _ _ _ h => h) (by kernel_rfl) ?_ (by assumption) ?_
        rotate_left
        ·(intro w hSw; clear hSw; go_simp; try (with_reducible rfl))
        try simp only [Act.put, List.setIfInBounds_toArray, List.set_cons_zero, List.set_cons_succ]
        refine lastZ (i := 22) (by kernel_rfl) rfl (by kernel_rfl) rfl (fun K hK => ?_)
        go_simp
        refine hK.out _ _ ?_
        clear hK K
        all_goals
         (try go_wp2_with fail)
         go_meet
         exact ⟨tagC, gq2, cq2, _, HNC⟩
       case rest =>
        obtain ⟨tagC, gC, pcC, rowsC, HC⟩ := hcut
        obtain ⟨w11, rfl⟩ : ∃ w' : World, w' = wc := ⟨_, rfl⟩
        have x4 := HC.out.1.head.cell (i := 4) rfl
        have x4' : w11.cell? ⟨X, 4, none⟩ = some (.slice (some ⟨sb, 0, none⟩) ln sc8) := by
         rw [x4]; have e1 := HAT.out.2.1; show some (Value.slice (some ⟨sb, 0, none⟩) (s1.lower x ly).st.length sc8) = _; rw [e1]
        have fX4 := HC.out.1.head.frozen 4 none
        obtain ⟨w12, hw12⟩ : ∃ w12, w11.setCell ⟨X, 4, none⟩ (.slice (some ⟨sb, 0, none⟩) at_ sc8) = w12 := ⟨_, rfl⟩
        have hD12 : DM w12 base X Y ob lb gb n mv tagC ((s1.lower x ly).emit at_) (some ⟨sb, 0, none⟩) (some ⟨gC, 0, none⟩) co8 sc8 pcC cc8 rowsC := by
         rw [← hw12]
         exact HC.out.1.takeS (k := at_) (by have e1 := HAT.out.2.1; show at_ ≤ (s1.lower x ly).st.length; omega)
        have hk12 : Keep (fun j => tag8 j < 7) w10 w12 := keep_chain HC.out.2.2 (by rw [← hw12]; exact (keep_set _ _ _ _).mono (fun j _ e => by subst e; rw [HC.out.1.tX]; omega)) HC.out.2.1
        have hsmC : ∀ j, j < w3.heap.size → tagC j = tag j := fun j hj => by
         have z1 := HSM9.out.2.2
         have z2 := HK10.out.size
         rw [HC.out.2.1 j (by omega), HSM9.out.1 j hj]
        have hk3 : Keep (fun j => tag j < 7) w3 w12 := keep_chain (HSM9.out.2.1.trans HK10.out.of_nb) hk12 HSM9.out.1
        have x5 := hD12.head.cell (i := 5) rfl
        have y2 := hD12.bl.cell (i := 2) rfl
        have hcl : ((s1.lower x ly).emit at_).cuts.length = cn2 := HAT.out.2.2.2
        rw [hcl] at y2
        have HD12 := Lib.hid hD12
        have HK12 := Lib.hid (And.intro hsmC hk3)
        have hbz12 : base ≤ w12.heap.size := by have := (hD12.lt X (by rw [hD12.tX]; omega)); omega
        have HAF : Hid (∀ c : Bool, c = (decide (0 ≤ by_) || decide (1 < ch + 1)) → ∀ sF, sF = ((s1.lower x ly).emit at_).cut x c → sF = s1.after x y si.st.length (decide (0 ≤ by_) || decide (1 < ch + 1))) := Lib.hid (fun c hc sF hsF => by
         rw [hsF, hc, HAT.out.1]
         unfold DS.after
         rw [if_pos (by rw [HVX.out, HLV.out.2]; exact HGE.out), HLV.out.2])
        clear x4 hD12 hk12 hsmC hk3 hcl
        obtain ⟨cb, hcb⟩ : ∃ cb, (decide (0 ≤ by_) || decide (1 < ch + 1)) = cb := ⟨_, rfl⟩
        have HCB := Lib.hid hcb
        clear hcb
        go_upto_region 18 with (fail)
        go_cut [167] (fun v wc => v = .bool cb ∧ wc = w12)
        case first =>
         by_cases hby : 0 ≤ by_
         ·have b5 : (0 : Int) ≤ by_ := hby
          obtain rfl : true = cb := by rw [← HCB.out]; simp [hby]
          clear hby
          go_wp2_with fail
          go_meet
          exact ⟨rfl, by first | rfl | exact hw12⟩
         ·have b5 : ¬ (0 : Int) ≤ by_ := hby
          by_cases hc1 : 1 < ch + 1
          ·have b6 : (1 : Int) < (ch : Int) + 1 := by omega
           obtain rfl : true = cb := by rw [← HCB.out]; simp [hc1]
           clear hby hc1
           go_wp2_with fail
           go_meet
           exact ⟨rfl, by first | rfl | exact hw12⟩
          ·have b6 : ¬ (1 : Int) < (ch : Int) + 1 := by omega
           obtain rfl : false = cb := by rw [← HCB.out]; simp [hby, hc1]
           clear hby hc1
           go_wp2_with fail
           go_meet
           exact ⟨rfl, by first | rfl | exact hw12⟩
        case rest =>
         obtain ⟨rfl, hcw⟩ := hcut
         have hcw' : wc = w12 := hcw
         subst hcw'
         clear hw12 x4' fX4
         cases cb with
         | false =>
          have HN : Hid (DLoop w3 wc base X Y ob lb gb n mv es tag s x by_ (i + 1) (ch + 1) ((s1.lower x ly).emit at_) tagC (some ⟨sb, 0, none⟩) (some ⟨gC, 0, none⟩) co8 sc8 pcC cc8 rowsC) := Lib.hid
           (HR.out.child HDR.out HBY.out HYY.out (by rw [HV.out.1]; exact HVZ.out) HRUN.out HUB.out (HAF.out false HCB.out.symm _ rfl) HD12.out HK12.out.1 HK12.out.2)
          go_wp2_with fail
          go_roundg (m - (i + 1))
          case measure => omega
          case rel => exact ⟨i + 1, ch + 1, _, _, _, _, _, _, _, _, _, by first | rfl | (congr 1; omega) | (push_cast; rfl), by go_num, by omega, Nat.le_refl _, by omega, HN⟩
         | true =>
          have ta := (HD12.out.keepN (((Keep.refl Nb wc).alloc (.cells #[.int .i64 (x : Nat)] 3)).drew)).bl.cell (i := 2) rfl
          have ta5 := (HD12.out.keepN (((Keep.refl Nb wc).alloc (.cells #[.int .i64 (x : Nat)] 3)).drew)).head.cell (i := 5) rfl
          have hcl : ((s1.lower x ly).emit at_).cuts.length = cn2 := HAT.out.2.2.2
          rw [hcl] at ta
          have hD13 := HD12.out.keepN ((Keep.refl Nb wc).drew)
          obtain ⟨gq3, cq3, w13, r1, r2, r3, r4⟩ := run_app1 (P := Tryz.prog) 63 63 3 Tryz.underlying63 elem_int rfl hD13.cu (.int .i64 (x : Nat)) rfl (by have := HBN.out; omega) (by omega)
          obtain ⟨tagD, hsmD, hDD⟩ := hD13.pushC hbz12 r2 r3
          rw [hcl] at r1 hDD
          have nbY2 : ¬ Bl co8 Y := fun ⟨a, ha, hb⟩ => by
           have h1 := hD13.cu.foot a ha
           have h2 := hD13.tY
           rw [hb] at h1; have h1 : tagC Y = 5 := h1; omega
          have nbX2 : ¬ Bl co8 X := fun ⟨a, ha, hb⟩ => by
           have h1 := hD13.cu.foot a ha
           have h2 := hD13.tX
           rw [hb] at h1; have h1 : tagC X = 5 := h1; omega
          have hY13 := hD13.bl.keep r3 nbY2
          have t5 := hY13.cell (i := 2) rfl
          rw [hcl] at t5
          have f5 := hY13.frozen 2 none
          have hl5 := hY13.lt
          have tX5 := (hD13.head.keep r3 nbX2).cell (i := 5) rfl
          have hz2 : wc.drew.heap.size = wc.heap.size := rfl
          rw [hz2] at r1 hsmD
          have H1 := Lib.hid r1
          have kD : Keep (fun j => tagC j < 7) wc (w13.setCell ⟨Y, 2, none⟩ (.slice (some ⟨gq3, 0, none⟩) (cn2 + 1) cq3)) :=
           ((Keep.refl (fun j => tagC j < 7) wc).drew.trans' r3 (fun _ _ e => e) (fun j _ ⟨a, ha, hb⟩ => by
            have h1 := hD13.cu.foot a ha
            rw [hb] at h1; have h1 : tagC j = 5 := h1; omega)).trans' (keep_set _ _ _ _) (fun _ _ e => e) (fun j _ e => by rw [e, hD13.tY]; omega)
          have HN : Hid (DLoop w3 (w13.setCell ⟨Y, 2, none⟩ (.slice (some ⟨gq3, 0, none⟩) (cn2 + 1) cq3)) base X Y ob lb gb n mv es tag s x by_ (i + 1) (ch + 1) (((s1.lower x ly).emit at_).cut x true) tagD (some ⟨sb, 0, none⟩) (some ⟨gC, 0, none⟩) (some ⟨gq3, 0, none⟩) sc8 pcC cq3 rowsC) := Lib.hid
           (HR.out.child HDR.out HBY.out HYY.out (by rw [HV.out.1]; exact HVZ.out) HRUN.out HUB.out (HAF.out true HCB.out.symm _ rfl) hDD (fun j hj => by have z1 := HK12.out.2.size; rw [hsmD j (by omega), HK12.out.1 j hj]) (keep_chain HK12.out.2 kD HK12.out.1))
          have mixed : (Tryz.prog).follows Departure.mixedOrders = true := by kernel_rfl
          clear r1 r2 r3 r4 hDD hD13 hY13 kD hsmD hz2 hcl nbY2 nbX2
          go_wp2_with fail
          have tb := HD12.out.bl.cell (i := 2) rfl
          have tb5 := HD12.out.head.cell (i := 5) rfl
          rw [show ((s1.lower x ly).emit at_).cuts.length = cn2 from HAT.out.2.2.2] at tb
          refine beginZ (S := (fun w' => w'.cell? ⟨X, 5, none⟩ = some (.pointer (some ⟨Y, 0, none⟩)) ∧ w'.cell? ⟨Y, 2, none⟩ = some (.slice co8 cn2 cc8))) (z := 16) (by kernel_rfl) ?_ (fun hHeld => ?_)
          ·go_keep
          refine yesZ (i := 0) [1, 2, 3, 14, 15, 16] (d := some 168) (v := ?_) rfl (by kernel_rfl) (by kernel_rfl) (by kernel_rfl) (by kernel_rfl) (by kernel_rfl) (fun _ _ _ h => h) (by kernel_rfl) ?_ (by assumption) ?_
          rotate_left
          ·(intro w hSw; clear hSw; go_simp; try (with_reducible rfl))
          try simp only [Act.put, List.setIfInBounds_toArray, List.set_cons_zero, List.set_cons_succ]
          refine yesZ (i := 1) [2, 3, 14, 15, 16] (d := some 169) (v := ?_) rfl (by kernel_rfl) (by kernel_rfl) (by kernel_rfl) (by kernel_rfl) (by kernel_rfl) (fun _ _ _ h => h) (by kernel_rfl) ?_ (by assumption) ?_
          rotate_left
          ·(intro w hSw; clear hSw; go_simp; try (with_reducible rfl))
          try simp only [Act.put, List.setIfInBounds_toArray, List.set_cons_zero, List.set_cons_succ]
          refine yesZ (i := 2) [3, 14, 15, 16] (d := some 170) (v := ?_) rfl (by kernel_rfl) (by kernel_rfl) (by kernel_rfl) (by kernel_rfl) (by kernel_rfl) (fun _ _ _ h => h) (by kernel_rfl) ?_ (by assumption) ?_
          rotate_left
          ·(intro w hSw; clear hSw; go_simp; try (with_reducible rfl))
          try simp only [Act.put, List.setIfInBounds_toArray, List.set_cons_zero, List.set_cons_succ]
          refine yesZ (i := 3) [14, 15, 16] (d := some 171) (v := ?_) rfl (by kernel_rfl) (by kernel_rfl) (by kernel_rfl) (by kernel_rfl) (by kernel_rfl) (fun _ _ _ h => h) (by kernel_rfl) ?_ (by assumption) ?_
          rotate_left
          ·(intro w hSw; (try dsimp only at hSw); go_simp; try (with_reducible rfl))
          try simp only [Act.put, List.setIfInBounds_toArray, List.set_cons_zero, List.set_cons_succ]
          refine yesZ (i := 4) [5, 6, 7, 8, 9, 10, 13, 16] (d := some 172) (v := ?_) rfl (by kernel_rfl) (by kernel_rfl) (by kernel_rfl) (by kernel_rfl) (by kernel_rfl) (fun _ _ _ h => h) (by kernel_rfl) ?_ (by assumption) ?_
          rotate_left
          ·(intro w hSw; clear hSw; go_simp; try (with_reducible rfl))
          try simp only [Act.put, List.setIfInBounds_toArray, List.set_cons_zero, List.set_cons_succ]
          refine yesZ (i := 5) [6, 7, 8, 9, 10, 13, 16] (d := some 173) (v := ?_) rfl (by kernel_rfl) (by kernel_rfl) (by kernel_rfl) (by kernel_rfl) (by kernel_rfl) (fun _ _ _ h => h) (by kernel_rfl) ?_ (by assumption) ?_
          rotate_left
          ·(intro w hSw; clear hSw; go_simp; try (with_reducible rfl))
          try simp only [Act.put, List.setIfInBounds_toArray, List.set_cons_zero, List.set_cons_succ]
          refine yesZ (i := 6) [7, 8, 9, 10, 13, 16] (d := some 174) (v := ?_) rfl (by kernel_rfl) (by kernel_rfl) (by kernel_rfl) (by kernel_rfl) (by kernel_rfl) (fun _ _ _ h => h) (by kernel_rfl) ?_ (by assumption) ?_
          rotate_left
          ·(intro w hSw; clear hSw; go_simp; try (with_reducible rfl))
          try simp only [Act.put, List.setIfInBounds_toArray, List.set_cons_zero, List.set_cons_succ]
          refine yesZ (i := 7) [8, 9, 10, 13, 16] (d := some 175) (v := ?_) rfl (by kernel_rfl) (by kernel_rfl) (by kernel_rfl) (by kernel_rfl) (by kernel_rfl) (fun _ _ _ h => h) (by kernel_rfl) ?_ (by assumption) ?_
          rotate_left
          ·(intro w hSw; (try dsimp only at hSw); go_simp; try (with_reducible rfl))
          try simp only [Act.put, List.setIfInBounds_toArray, List.set_cons_zero, List.set_cons_succ]
          refine yesZ (i := 8) [9, 10, 13, 16] (d := some 176) (v := ?_) rfl (by kernel_rfl) (by kernel_rfl) (by kernel_rfl) (by kernel_rfl) (by kernel_rfl) (fun _ _ _ h => h) (by kernel_rfl) ?_ (by assumption) ?_
          rotate_left
          ·(intro w hSw; clear hSw; go_simp; try (with_reducible rfl))
          try simp only [Act.put, List.setIfInBounds_toArray, List.set_cons_zero, List.set_cons_succ]
          refine yesZ (i := 9) [10, 13, 16] (d := some 177) (v := ?_) rfl (by kernel_rfl) (by kernel_rfl) (by kernel_rfl) (by kernel_rfl) (by kernel_rfl) (fun _ _ _ h => h) (by kernel_rfl) ?_ (by assumption) ?_
          rotate_left
          ·(intro w hSw; clear hSw; go_simp; try (with_reducible rfl))
          try simp only [Act.put, List.setIfInBounds_toArray, List.set_cons_zero, List.set_cons_succ]
          refine yesZ (i := 10) [13, 16] (d := some 178) (v := ?_) rfl (by kernel_rfl) (by kernel_rfl) (by kernel_rfl) (by kernel_rfl) (by kernel_rfl) (fun _ _ _ h => h) (by kernel_rfl) ?_ (by assumption) ?_
          rotate_left
          ·(intro w hSw; (try dsimp only at hSw); go_simp; try (with_reducible rfl))
          try simp only [Act.put, List.setIfInBounds_toArray, List.set_cons_zero, List.set_cons_succ]
          refine yesZ (i := 11) [12, 13, 16] (d := some 179) (v := ?_) rfl (by kernel_rfl) (by kernel_rfl) (by kernel_rfl) (by kernel_rfl) (by kernel_rfl) (fun _ _ _ h => h) (by kernel_rfl) ?_ (by assumption) ?_
          rotate_left
          ·(intro w hSw; clear hSw; go_simp; try (with_reducible rfl))
          try simp only [Act.put, List.setIfInBounds_toArray, List.set_cons_zero, List.set_cons_succ]
          refine oneZ (i := 12) (by kernel_rfl) rfl (fun K hK => ?_)
          go_simp
          refine hK.out _ _ ?_ (fun hHeld => ?_)
          ·go_keep
          clear hK K
          try simp only [Act.put, List.setIfInBounds_toArray, List.set_cons_zero, List.set_cons_succ]
          refine oneZ (i := 13) (by kernel_rfl) rfl (fun K hK => ?_)
          refine step_app_run rfl _ _ 63 63 rfl (.slice co8 cn2 cc8) (.slice (some ⟨wc.heap.size, 0, none⟩) 1 1) (by simp [Act.eval, Act.put]) (by simp [Act.eval, Act.put]) H1.out ?_
          refine hK.out _ _ ?_ (fun hHeld => ?_)
          ·go_keep
          clear hK K
          try simp only [Act.put, List.setIfInBounds_toArray, List.set_cons_zero, List.set_cons_succ]
          refine yesZ (i := 14) [15, 16] (d := some 182) (v := ?_) rfl (by kernel_rfl) (by kernel_rfl) (by kernel_rfl) (by kernel_rfl) (by kernel_rfl) (fun _ _ _ h => h) (by kernel_rfl) ?_ (by assumption) ?_
          rotate_left
          ·(intro w hSw; clear hSw; go_simp; try (with_reducible rfl))
          try simp only [Act.put, List.setIfInBounds_toArray, List.set_cons_zero, List.set_cons_succ]
          refine yesZ (i := 15) [16] (d := some 183) (v := ?_) rfl (by kernel_rfl) (by kernel_rfl) (by kernel_rfl) (by kernel_rfl) (by kernel_rfl) (fun _ _ _ h => h) (by kernel_rfl) ?_ (by assumption) ?_
          rotate_left
          ·(intro w hSw; clear hSw; go_simp; try (with_reducible rfl))
          try simp only [Act.put, List.setIfInBounds_toArray, List.set_cons_zero, List.set_cons_succ]
          refine lastZ (i := 16) (by kernel_rfl) rfl (by kernel_rfl) rfl (fun K hK => ?_)
          go_simp
          refine hK.out _ _ ?_
          clear hK K
          all_goals
           (try go_wp2_with fail)
           go_roundg (m - (i + 1))
           case measure => omega
           case rel => exact ⟨i + 1, ch + 1, _, _, _, _, _, _, _, _, _, by first | rfl | (congr 1; omega) | (push_cast; rfl), by go_num, by omega, Nat.le_refl _, by omega, HN⟩
      ·as_aux_lemma =>
       have b4 : ¬ (vx1 : Int) ≤ (ly : Int) := by omega
       have HGE := Lib.hid hge
       clear hge
       have HN : Hid (∀ wq, Keep Nb w9 wq → DLoop w3 wq base X Y ob lb gb n mv es tag s x by_ (i + 1) (ch + 1) (s1.lower x ly) tag8 so8 po8 co8 sc8 pc8 cc8 rows8) := Lib.hid (fun wq kq =>
        HR.out.child HDR.out HBY.out HYY.out (by rw [HV.out.1]; exact HVZ.out) HRUN.out HUB.out (by unfold DS.after; rw [if_neg (by rw [HVX.out, HLV.out.2]; exact HGE.out), HLV.out.2]) (HD9.out.keepN kq) HSM9.out.1 (HSM9.out.2.1.trans kq.of_nb))
       go_wp2_with fail
       go_quiet (fail)
       go_wp2_with fail
       go_roundg (m - (i + 1))
       case measure => omega
       case rel => exact ⟨i + 1, ch + 1, _, _, _, _, _, _, _, _, _, by first | rfl | (congr 1; omega) | (push_cast; rfl), by go_num, by omega, Nat.le_refl _, by omega, Lib.hid (HN.out _ ((Keep.refl Nb w9).drewN nq))⟩
    ·have b2 : ((vy : Int) == 0) = false := by simp; omega
     by_cases hlow : vy < vx
     ·as_aux_lemma =>
      have b3 : (vy : Int) < (vx : Int) := by omega
      have HLW := Lib.hid hlow
      clear hlow
      go_wp2_with fail
      go_quiet (fail)
      obtain ⟨w5, hw5⟩ : ∃ w5, w4.drewN nq = w5 := ⟨_, rfl⟩
      have k5 : Keep Nb w4 w5 := by rw [← hw5]; exact (Keep.refl Nb w4).drewN nq
      have hD5 := HD4.out.keepN k5
      have hu5 := k5.cell u0 (fun e => e)
      have t1 := hD5.head.cell (i := 4) rfl
      have ta := (hD5.keepN (((Keep.refl Nb w5).alloc (.cells #[.int .i64 e.id] 3)).drew)).head.cell (i := 4) rfl
      have ua := (((Keep.refl Nb w5).alloc (.cells #[.int .i64 e.id] 3)).drew).cell hu5 (fun e => e)
      have hD6 := hD5.keepN ((Keep.refl Nb w5).drew)
      have hstl : si.st.length ≤ 100000 := by
       have h1 := HR.out.bd
       have h2 := unv_enter hx H0.out.1
       have h3 := wt_enter s x
       have h4 := H0.out.2.2
       have h5 : si.st.length ≤ wt si := by unfold wt; omega
       omega
      obtain ⟨gq, cq, w6, r1, r2, r3, r4⟩ := run_app1 (P := Tryz.prog) 63 63 3 Tryz.underlying63 elem_int rfl hD6.st (.int .i64 e.id) rfl (by omega) (by omega)
      have hbz : base ≤ w5.drew.heap.size := by have := (hD6.lt X (by rw [hD6.tX]; omega)); omega
      obtain ⟨tagN, hsame, hDN⟩ := hD6.pushS hbz r2 r3
      have nbX : ¬ Bl soi X := fun ⟨a, ha, hb⟩ => by
       have h1 := hD6.st.foot a ha
       have h2 := hD6.tX
       rw [hb] at h1; have h1 : tagi X = 4 := h1; omega
      have hX6 := hD6.head.keep r3 nbX
      have t5 := hX6.cell (i := 4) rfl
      have hZ7t : ¬ tagi Z < 7 := fun h => by have h1 := HR.out.dm.lt Z h; have h2 := HZZ.out.1; omega
      have hXZ : X ≠ Z := fun e => by rw [← e, hD6.tX] at hZ7t; omega
      have u6 : w6.cell? ⟨Z, 0, none⟩ = some (.int .i64 e.id) := r3.cell hu5 (fun ⟨a, ha, hb⟩ => by
       have h1 := hD6.st.foot a ha
       have hb : a.block = Z := hb
       rw [hb] at h1; have h1 : tagi Z = 4 := h1; omega)
      clear hZ7t
      have f5 := hX6.frozen 4 none
      have hl5 := hX6.lt
      have hz2 : w5.drew.heap.size = w5.heap.size := rfl
      rw [hz2] at r1 hsame
      have H1 := Lib.hid r1
      have HDN := Lib.hid hDN
      have k57 : Keep (fun j => tagi j < 7) w5 (w6.setCell ⟨X, 4, none⟩ (.slice (some ⟨gq, 0, none⟩) (si.st.length + 1) cq)) :=
       ((Keep.refl (fun j => tagi j < 7) w5).drew.trans' r3 (fun _ _ e => e) (fun j _ ⟨a, ha, hb⟩ => by
        have h1 := hD6.st.foot a ha
        rw [hb] at h1; have h1 : tagi j = 4 := h1; omega)).trans' (keep_set _ _ _ _) (fun _ _ e => e) (fun j _ e => by rw [e, hD6.tX]; omega)
      have HK7 := Lib.hid (k5.of_nb.trans k57)
      have HSM := Lib.hid hsame
      have mixed : (Tryz.prog).follows Departure.mixedOrders = true := by kernel_rfl
      have hsz5 := k5.size
      rw [hw5]
      obtain ⟨w7, hw7⟩ : ∃ w7, w6.setCell ⟨X, 4, none⟩ (.slice (some ⟨gq, 0, none⟩) (si.st.length + 1) cq) = w7 := ⟨_, rfl⟩
      rw [hw7] at HDN HK7
      clear r1 r2 r3 r4 hDN hD5 hD6 hw5 hX6 k57 k5 hbz hsame u0 x2 x3 x4 oy ox hz2
      go_upto_region 21 with (fail)
      go_cut [200] (fun _ wc => wc = w7)
      case first =>
       refine beginZ (S := (fun w' => w'.cell? ⟨Z, 0, none⟩ = some (.int .i64 e.id) ∧ w'.cell? ⟨X, 4, none⟩ = some (.slice soi si.st.length sci))) (z := 11) (by kernel_rfl) ?_ (fun hHeld => ?_)
       ·go_keep
       refine yesZ (i := 0) [9, 10, 11] (d := some 200) (v := ?_) rfl (by kernel_rfl) (by kernel_rfl) (by kernel_rfl) (by kernel_rfl) (by kernel_rfl) (fun _ _ _ h => h) (by kernel_rfl) ?_ (by assumption) ?_
       rotate_left
       ·(intro w hSw; clear hSw; go_simp; try (with_reducible rfl))
       try simp only [Act.put, List.setIfInBounds_toArray, List.set_cons_zero, List.set_cons_succ]
       refine yesZ (i := 1) [2, 3, 4, 8, 11] (d := some 201) (v := ?_) rfl (by kernel_rfl) (by kernel_rfl) (by kernel_rfl) (by kernel_rfl) (by kernel_rfl) (fun _ _ _ h => h) (by kernel_rfl) ?_ (by assumption) ?_
       rotate_left
       ·(intro w hSw; clear hSw; go_simp; try (with_reducible rfl))
       try simp only [Act.put, List.setIfInBounds_toArray, List.set_cons_zero, List.set_cons_succ]
       refine yesZ (i := 2) [3, 4, 8, 11] (d := some 202) (v := ?_) rfl (by kernel_rfl) (by kernel_rfl) (by kernel_rfl) (by kernel_rfl) (by kernel_rfl) (fun _ _ _ h => h) (by kernel_rfl) ?_ (by assumption) ?_
       rotate_left
       ·(intro w hSw; clear hSw; go_simp; try (with_reducible rfl))
       try simp only [Act.put, List.setIfInBounds_toArray, List.set_cons_zero, List.set_cons_succ]
       refine yesZ (i := 3) [4, 8, 11] (d := some 203) (v := ?_) rfl (by kernel_rfl) (by kernel_rfl) (by kernel_rfl) (by kernel_rfl) (by kernel_rfl) (fun _ _ _ h => h) (by kernel_rfl) ?_ (by assumption) ?_
       rotate_left
       ·(intro w hSw; clear hSw; go_simp; try (with_reducible rfl))
       try simp only [Act.put, List.setIfInBounds_toArray, List.set_cons_zero, List.set_cons_succ]
       refine yesZ (i := 4) [8, 11] (d := some 204) (v := ?_) rfl (by kernel_rfl) (by kernel_rfl) (by kernel_rfl) (by kernel_rfl) (by kernel_rfl) (fun _ _ _ h => h) (by kernel_rfl) ?_ (by assumption) ?_
       rotate_left
       ·(intro w hSw; (try dsimp only at hSw); go_simp; try (with_reducible rfl))
       try simp only [Act.put, List.setIfInBounds_toArray, List.set_cons_zero, List.set_cons_succ]
       refine yesZ (i := 5) [6, 7, 8, 11] (d := some 205) (v := ?_) rfl (by kernel_rfl) (by kernel_rfl) (by kernel_rfl) (by kernel_rfl) (by kernel_rfl) (fun _ _ _ h => h) (by kernel_rfl) ?_ (by assumption) ?_
       rotate_left
       ·(intro w hSw; clear hSw; go_simp; try (with_reducible rfl))
       try simp only [Act.put, List.setIfInBounds_toArray, List.set_cons_zero, List.set_cons_succ]
       refine yesZ (i := 6) [7, 8, 11] (d := some 206) (v := ?_) rfl (by kernel_rfl) (by kernel_rfl) (by kernel_rfl) (by kernel_rfl) (by kernel_rfl) (fun _ _ _ h => h) (by kernel_rfl) ?_ (by assumption) ?_
       rotate_left
       ·(intro w hSw; (try dsimp only at hSw); go_simp; try (with_reducible rfl))
       try simp only [Act.put, List.setIfInBounds_toArray, List.set_cons_zero, List.set_cons_succ]
       refine oneZ (i := 7) (by kernel_rfl) rfl (fun K hK => ?_)
       go_simp
       refine hK.out _ _ ?_ (fun hHeld => ?_)
       ·go_keep
       clear hK K
       try simp only [Act.put, List.setIfInBounds_toArray, List.set_cons_zero, List.set_cons_succ]
       refine oneZ (i := 8) (by kernel_rfl) rfl (fun K hK => ?_)
       refine step_app_run rfl _ _ 63 63 rfl (.slice soi si.st.length sci) (.slice (some ⟨w5.heap.size, 0, none⟩) 1 1) (by simp [Act.eval, Act.put]) (by simp [Act.eval, Act.put]) H1.out ?_
       refine hK.out _ _ ?_ (fun hHeld => ?_)
       ·go_keep
       clear hK K
       try simp only [Act.put, List.setIfInBounds_toArray, List.set_cons_zero, List.set_cons_succ]
       refine yesZ (i := 9) [10, 11] (d := some 209) (v := ?_) rfl (by kernel_rfl) (by kernel_rfl) (by kernel_rfl) (by kernel_rfl) (by kernel_rfl) (fun _ _ _ h => h) (by kernel_rfl) ?_ (by assumption) ?_
       rotate_left
       ·(intro w hSw; clear hSw; go_simp; try (with_reducible rfl))
       try simp only [Act.put, List.setIfInBounds_toArray, List.set_cons_zero, List.set_cons_succ]
       refine yesZ (i := 10) [11] (d := some 210) (v := ?_) rfl (by kernel_rfl) (by kernel_rfl) (by kernel_rfl) (by kernel_rfl) (by kernel_rfl) (fun _ _ _ h => h) (by kernel_rfl) ?_ (by assumption) ?_
       rotate_left
       ·(intro w hSw; clear hSw; go_simp; try (with_reducible rfl))
       try simp only [Act.put, List.setIfInBounds_toArray, List.set_cons_zero, List.set_cons_succ]
       refine lastZ (i := 11) (by kernel_rfl) rfl (by kernel_rfl) rfl (fun K hK => ?_)
       go_simp
       refine hK.out _ _ ?_
       clear hK K
       all_goals
        (try go_wp2_with fail)
        go_meet
        first | exact rfl | exact hw7
      case rest =>
       have hcut' : wc = w7 := hcut
       subst hcut'
       have x2 := HDN.out.head.cell (i := 2) rfl
       have x3 := HDN.out.head.cell (i := 3) rfl
       have oy := HDN.out.ord.cell (fints_get (si.pushE e.id).ord hyn)
       have lx := HDN.out.low.cell (fints_get (si.pushE e.id).low hx)
       have e1 : (si.pushE e.id).ord y = vy := HV.out.1
       obtain ⟨lv, hlv⟩ : ∃ lv, (si.pushE e.id).low x = lv := ⟨_, rfl⟩
       rw [e1] at oy
       rw [hlv] at lx
       have fL := HDN.out.low.frozen x none
       have HLV := Lib.hid hlv
       clear hlv e1 hw7 ta ua t1 t5 f5 hl5 hu5 u6 hXZ
       go_wp2_with fail
       go_region
       have HN : Hid (DLoop w3 (wc.setCell ⟨lb, x, none⟩ (.int .i64 (min (lv : Int) (vy : Int)))).drew base X Y ob lb gb n mv es tag s x by_ (i + 1) ch ((si.pushE e.id).lower x vy) tagN (some ⟨gq, 0, none⟩) poi coi cq pci cci rowsi) := Lib.hid
        ⟨fun s' r => HR.out.run s' (by rw [HDR.out]; exact .back HBY.out (by rw [HYY.out, HV.out.1]; exact hv) (by rw [HYY.out, HV.out.1, HV.out.2]; exact HLW.out) (by rw [HYY.out, HV.out.1]; exact r)),
         HDN.out.lowered hx HLV.out, fun j hj => by
          have z1 := HR.out.keep.size
          have z2 := HK4.out.size
          rw [HSM.out j (by omega), HR.out.same j hj],
         HR.out.lt7 (keep_chain (HK4.out.of_nb.trans HK7.out) (HDN.out.keepL x _) (fun j hj => by have z2 := HK4.out.size; rw [HSM.out j (by omega)])) (fun j e => .inl e),
         HR.out.un, by have h1 := HR.out.bd; have h2 := wt_push si e.id; have h3 : unv n ((si.pushE e.id).lower x vy) = unv n si := rfl; have h4 : wt ((si.pushE e.id).lower x vy) = wt (si.pushE e.id) := rfl; rw [h3, h4]; omega⟩
       clear HDN HK7 x2 x3 oy lx fL
       go_wp2_with fail
       go_roundg (m - (i + 1))
       case measure => omega
       case rel => exact ⟨i + 1, ch, _, _, _, _, _, _, _, _, _, rfl, by go_num, by omega, Nat.le_refl _, by omega, HN⟩
     ·have b3 : ¬ (vy : Int) < (vx : Int) := by omega
      have HN : Hid (∀ wq, Keep Nb w4 wq → DLoop w3 wq base X Y ob lb gb n mv es tag s x by_ (i + 1) ch si tagi soi poi coi sci pci cci rowsi) := Lib.hid (fun wq kq =>
       ⟨fun s' r => HR.out.run s' (by rw [HDR.out]; exact .done HBY.out (by rw [HYY.out, HV.out.1]; exact hv) (by rw [HYY.out, HV.out.1, HV.out.2]; exact hlow) r), HD4.out.keepN kq, HR.out.same, HR.out.lt7 (HK4.out.trans kq) (fun _ e => e.elim), HR.out.un, by have := HR.out.bd; omega⟩)
      clear hlow
      go_wp2_with fail
      go_quiet (fail)
      go_wp2_with fail
      go_roundg (m - (i + 1))
      case measure => omega
      case rel => exact ⟨i + 1, ch, _, _, _, _, _, _, _, _, _, rfl, by go_num, by omega, Nat.le_refl _, by omega, Lib.hid (HN.out _ ((Keep.refl Nb w4).drewN nq))⟩
  ·obtain rfl : i = m := by omega
   have HP : Hid (DeepPost W base X Y ob lb gb n mv es tag s x by_ (.returned (.tuple #[])) wr) := Lib.hid (by
    have hr := HR.out
    have h1 := hr.run si (by rw [List.drop_of_length_le (by rw [HM.out]; exact Nat.le_refl _)]; exact .nil)
    have h2 := unv_enter hx H0.out.1
    have h3 := wt_enter s x
    have h4 := hr.un
    have h5 := hr.bd
    have z3 := HK3.out.size
    exact ⟨rfl, si, tagi, soi, poi, coi, sci, pci, cci, rowsi, .deep h1, hr.dm, fun j hj => hr.same j (by omega), HK3.out.trans hr.keep, by omega, by omega⟩)
   clear HR
   go_wp2_with fail
   go_end0
   exact HP.out
end Go.Proofs.YtfglkgkihafcpaaGreatDoor

