/- Part 35 of the proof: ISav IKn5 DkNum RWords. -/
import Derived.Test.YtfglkgkihafcpaaGreatDoorDp01
import Derived.Test.YtfglkgkihafcpaaGreatDoorDp02
import Derived.Test.YtfglkgkihafcpaaGreatDoorDp03
import Derived.Test.YtfglkgkihafcpaaGreatDoorDp05
import Derived.Test.YtfglkgkihafcpaaGreatDoorDp07
import Derived.Test.YtfglkgkihafcpaaGreatDoorDp25
import Derived.Test.YtfglkgkihafcpaaGreatDoorDp33
import Derived.Test.YtfglkgkihafcpaaGreatDoorDp34
import Derived.Deep.DeepCutAuto
import Derived.Deep.LoopGhost
set_option linter.unusedVariables false
set_option linter.unusedSimpArgs false
namespace Go.Proofs.YtfglkgkihafcpaaGreatDoor
open Go.RowKit Pl
theorem Sl.keepW {F : Nat → Prop} {w w' : World} {T : TypeId} {sz n c : Nat} {o : Option Addr} {l : List Value} {B b : Nat} (h : Sl F w T sz o n c l) (hT : T ≠ 5) (hb : ∀ a, o = some a → a.block ≠ b) (k : Keep (WG w B b) w w') : Sl F w' T sz o n c l :=
 h.of_block fun a ha => k.block _ (h.lt ha) (by
  rcases h.cases with ⟨e, _⟩ | ⟨g, e, _, _, _, hrow, _⟩
  ·rw [e] at ha; cases ha
  ·rw [e] at ha; cases ha
   exact hrow.notWG hT (hb _ e))
theorem bs_app (a b : List UInt8) : bstr a ++ bstr b = bstr (a ++ b) := by
 apply ByteArray.ext
 rw [ByteArray.data_append]
 simp
set_option maxRecDepth 100000 in
set_option maxHeartbeats 4000000 in
theorem isaved_any (F : Nat → Prop) (w : World) (xb gb n : Nat) (es : List E) (r1 r2 r3 r4 : Value) (hX : Row w xb 100 [.pointer (some ⟨gb, 0, none⟩), r1, r2, r3, r4]) (hG : Gr F w gb n es) (hL : LibW w) (hn : n ≤ 40) (hl : es.length ≤ 120)
  (hs : ∀ e, e ∈ es → e.id < 4611686018427387904 ∧ e.a < n ∧ e.b < n) :
  Calls Tryz.prog 98 #[.pointer (some ⟨xb, 0, none⟩)] w fun e w' => e = .returned (.string (bstr (savedT n es))) ∧ Keep Nb w w' := by
 have HX := Lib.hid hX
 have HG := Lib.hid hG
 have HL := Lib.hid hL
 have HS := Lib.hid hs
 clear hX hG hL hs
 go_enter Tryz.func98, Tryz.ntmps98
 obtain ⟨B, hB⟩ : ∃ B, w.heap.size = B := ⟨_, rfl⟩
 obtain ⟨w1, hw1⟩ : ∃ w1, w.alloc (.cells #[.pointer none, .slice none 0 0] 39) = w1 := ⟨_, rfl⟩
 have k1 : Keep Nb w w1 := by rw [← hw1]; exact (Keep.refl Nb w).alloc _
 have hBl : Bld w1 B B [] := by rw [← hw1, ← hB]; exact Bld.made w
 have hz1 : w1.heap.size = B + 1 := by rw [← hw1, ← hB]; simp
 have x0 := (HX.out.keep k1 (fun e => e)).cell (i := 0) rfl
 have HBL := Lib.hid hBl
 have HK1 := Lib.hid k1
 have HZ := Lib.hid (And.intro hB hz1)
 have HNO := Lib.hid (nodes_any F w1 gb n es (HG.out.keep k1 (fun _ _ e => e)))
 clear k1 hBl hz1
 go_wp2_with fail
 try rw [hw1]
 try rw [hB]
 clear hw1 hB
 refine HNO.out.mono ?_
 rintro e1 w1 ⟨rfl, rfl⟩
 obtain ⟨tn, htn⟩ : ∃ tn, Lib.itoa (n : Int) = tn := ⟨_, rfl⟩
 have hln : tn.length ≤ 21 := by rw [← htn]; exact itoa_len (by omega)
 have HTN := Lib.hid htn
 have HIT := Lib.hid (itoa_any w1 (HL.out.keep HK1.out) (n : Int) (by omega) (by omega))
 rw [htn] at HIT
 have q1 : ¬ 9223372036854775807 < tn.length + 1 := by omega
 clear HNO htn
 go_wp2_with fail
 refine HIT.out.mono ?_
 rintro e1 w2 ⟨rfl, hk2⟩
 have HWS := Lib.hid (wstr_any w2 B B [] (bstr tn ++ ⟨#[10]⟩) (HBL.out.keepN hk2) (by
  have h2 : (bstr tn ++ ⟨#[10]⟩) = bstr (tn ++ [10]) := bs_app _ [10]
  rw [h2, bstr_size]; simp; omega) (by have := hk2.size; have := HZ.out.2; omega))
 have HK2 := Lib.hid (HK1.out.trans hk2)
 clear hk2 HIT
 go_wp2_with fail
 refine HWS.out.mono ?_
 rintro e1 w3 ⟨rfl, hB3, hk3⟩
 have hk03 : Keep Nb w w3 := HK2.out.trans' hk3 (fun _ _ e => e) (fun j hj e => by have h1 := HZ.out.1; have h2 := e.1; show False; omega)
 have hB3 : Bld w3 B B (savedT n (es.take 0)) := by
  have h2 : (bstr tn ++ ⟨#[10]⟩) = bstr (tn ++ [10]) := bs_app _ [10]
  rw [h2, bstr_list, List.nil_append] at hB3
  rw [List.take_zero, savedT_zero, HTN.out]
  exact hB3
 have x0 := (HX.out.keep hk03 (fun e => e)).cell (i := 0) rfl
 have HB3 := Lib.hid hB3
 have HK3 := Lib.hid hk03
 have HE := Lib.hid (edges_any F w3 gb n es (HG.out.keep hk03 (fun _ _ e => e)) (by omega))
 clear hB3 hk3 hk03 HWS q1
 go_wp2_with fail
 refine HE.out.mono ?_
 rintro e1 w4 ⟨o4, c4, rfl, hS4, hk4⟩
 obtain ⟨m, hm⟩ : ∃ m, es.length = m := ⟨_, rfl⟩
 rw [hm] at hS4 hl ⊢
 have HM := Lib.hid hm
 have hz3 : B + 1 ≤ w3.heap.size := by have h1 := HB3.out.lt; omega
 have H0 : Hid (Bld w4 B B (savedT n (es.take 0)) ∧ Sl (fun k => w3.heap.size ≤ k) w4 125 3 o4 m c4 (ecs es) ∧ Keep Nb w w4) := Lib.hid ⟨HB3.out.keepN hk4, hS4, HK3.out.trans hk4⟩
 clear hS4 hk4 hm HE x0
 go_wp2_with fail
 go_loopg [20] m (fun kx s20 wr => ∃ i : Nat, s20 = .int .i64 i ∧ i ≤ m ∧ m - i ≤ kx ∧ Hid (Bld wr B B (savedT n (es.take i)) ∧ Sl (fun k => w3.heap.size ≤ k) wr 125 3 o4 m c4 (ecs es) ∧ Keep Nb w wr))
 case atStart => exact ⟨0, rfl, Nat.zero_le _, by omega, H0⟩
 case round =>
  clear H0
  obtain ⟨i, rfl, hi, hg, HR⟩ := hrel
  have hBw : B ≤ wr.heap.size := by have := HR.out.2.2.size; have := HZ.out.1; omega
  by_cases hlt : i < m
  ·as_aux_lemma =>
   obtain ⟨e, he⟩ : ∃ e, es[i]? = some e := ⟨_, List.getElem?_eq_getElem (by rw [HM.out]; exact hlt)⟩
   have hsm := HS.out e (List.mem_of_getElem? he)
   obtain ⟨go, rfl, hFg, hnc, hrow⟩ := HR.out.2.1.pos (by omega)
   have d0 := hrow.edges.id _ _ he
   have d1 := hrow.edges.a _ _ he
   have d2 := hrow.edges.b _ _ he
   obtain ⟨X, hX⟩ : ∃ X, wr.heap.size = X := ⟨_, rfl⟩
   obtain ⟨W, hW⟩ : ∃ W, wr.alloc (.cells #[.int .i64 e.id, .int .i64 e.a, .int .i64 e.b] 125) = W := ⟨_, rfl⟩
   have kW : Keep Nb wr W := by rw [← hW]; exact (Keep.refl Nb wr).alloc _
   have hRX : Row W X 125 (ecells e) := by rw [← hW, ← hX]; exact Row.new wr #[.int .i64 e.id, .int .i64 e.a, .int .i64 e.b] 125
   have c0 := hRX.cell (i := 0) rfl
   have c1 := hRX.cell (i := 1) rfl
   have c2 := hRX.cell (i := 2) rfl
   obtain ⟨ta, hta⟩ : ∃ t, Lib.itoa (e.id : Int) = t := ⟨_, rfl⟩
   obtain ⟨tb, htb⟩ : ∃ t, Lib.itoa (e.a : Int) = t := ⟨_, rfl⟩
   obtain ⟨tc, htc⟩ : ∃ t, Lib.itoa (e.b : Int) = t := ⟨_, rfl⟩
   have ha : ta.length ≤ 21 := by rw [← hta]; exact itoa_len (by omega)
   have hb : tb.length ≤ 21 := by rw [← htb]; exact itoa_len (by omega)
   have hc : tc.length ≤ 21 := by rw [← htc]; exact itoa_len (by omega)
   have HLW := Lib.hid (HL.out.keep (HR.out.2.2.trans kW))
   have HI1 : Hid (∀ wx, Keep Nb W wx → Calls Tryz.prog 25 #[.int .i64 (e.id : Nat)] wx fun e' w' => e' = .returned (.string (bstr ta)) ∧ Keep Nb wx w') := Lib.hid (fun wx k => by rw [← hta]; exact itoa_any wx (HLW.out.keep k) _ (by omega) (by omega))
   have HI2 : Hid (∀ wx, Keep Nb W wx → Calls Tryz.prog 25 #[.int .i64 (e.a : Nat)] wx fun e' w' => e' = .returned (.string (bstr tb)) ∧ Keep Nb wx w') := Lib.hid (fun wx k => by rw [← htb]; exact itoa_any wx (HLW.out.keep k) _ (by omega) (by omega))
   have HI3 : Hid (∀ wx, Keep Nb W wx → Calls Tryz.prog 25 #[.int .i64 (e.b : Nat)] wx fun e' w' => e' = .returned (.string (bstr tc)) ∧ Keep Nb wx w') := Lib.hid (fun wx k => by rw [← htc]; exact itoa_any wx (HLW.out.keep k) _ (by omega) (by omega))
   have hll : (savedT n (es.take i)).length ≤ 10000 := by
    have h1 := savedT_len (n := n) (es := es.take i) (by omega) (fun f hf => by have := HS.out f (List.mem_of_mem_take hf); omega)
    have h2 : (es.take i).length ≤ i := by rw [List.length_take]; omega
    omega
   have hline : lineT e = ta ++ [32] ++ tb ++ [32] ++ tc ++ [10] := by unfold lineT; rw [hta, htb, htc]
   have HWS : Hid (∀ wx, Keep Nb W wx → Calls Tryz.prog 11 #[.pointer (some ⟨B, 0, none⟩), .string (bstr ta ++ ⟨#[32]⟩ ++ bstr tb ++ ⟨#[32]⟩ ++ bstr tc ++ ⟨#[10]⟩)] wx fun e' w' => (∃ v, e' = .returned v) ∧ Bld w' B B (savedT n (es.take (i + 1))) ∧ Keep (WG wx B B) wx w') := Lib.hid (fun wx k => by
    have h2 : (bstr ta ++ ⟨#[32]⟩ ++ bstr tb ++ ⟨#[32]⟩ ++ bstr tc ++ ⟨#[10]⟩) = bstr (lineT e) := by
     rw [hline]
     have b1 : (⟨#[32]⟩ : ByteArray) = bstr [32] := rfl
     have b2 : (⟨#[10]⟩ : ByteArray) = bstr [10] := rfl
     rw [b1, b2, bs_app, bs_app, bs_app, bs_app, bs_app]
    have h3 : es.take (i + 1) = es.take i ++ [e] := by rw [List.take_add_one, he]; rfl
    refine (wstr_any wx B B (savedT n (es.take i)) _ ((HR.out.1.keepN kW).keepN k) (by rw [h2, bstr_size, hline]; simp; omega) (by have := kW.size; have := k.size; omega)).mono ?_
    rintro e' w' ⟨rfl, h4, h5⟩
    refine ⟨⟨_, rfl⟩, ?_, h5⟩
    rw [h2, bstr_list] at h4
    rw [h3, savedT_snoc]
    exact h4)
   have HRW := Lib.hid (And.intro (HR.out.2.1.keep kW (fun _ _ e => e)) (HR.out.2.2.trans kW))
   have p1 : ¬ 9223372036854775807 < ta.length + 1 := by omega
   have p2 : ¬ 9223372036854775807 < ta.length + 1 + tb.length := by omega
   have p3 : ¬ 9223372036854775807 < ta.length + 1 + tb.length + 1 := by omega
   have p4 : ¬ 9223372036854775807 < ta.length + 1 + tb.length + 1 + tc.length := by omega
   have p5 : ¬ 9223372036854775807 < ta.length + 1 + tb.length + 1 + tc.length + 1 := by omega
   have HGB : Hid (w3.heap.size ≤ go) := Lib.hid hFg
   clear he hrow hRX kW hta htb htc HLW hline hll hFg ha hb hc hsm
   go_upto_region 6 with (fail)
   try rw [hW]
   try rw [hX]
   clear hW hX d0 d1 d2
   refine beginZ (S := (fun w' => Keep Nb W w')) (z := 14) (by kernel_rfl) ?_ (fun hHeld => ?_)
   ·exact (Keep.refl Nb W).drew
   refine yesZ (i := 0) [1, 2, 6, 11, 14] (d := some 24) (v := ?_) rfl (by kernel_rfl) (by kernel_rfl) (by kernel_rfl) (by kernel_rfl) (by kernel_rfl) (fun _ _ _ h => h) (by kernel_rfl) ?_ (by assumption) ?_
   rotate_left
   ·(intro w hSw; clear hSw; go_simp; try (with_reducible rfl))
   try simp only [Act.put, List.setIfInBounds_toArray, List.set_cons_zero, List.set_cons_succ]
   refine yesZ (i := 1) [2, 6, 11, 14] (d := some 25) (v := ?_) rfl (by kernel_rfl) (by kernel_rfl) (by kernel_rfl) (by kernel_rfl) (by kernel_rfl) (fun _ _ _ h => h) (by kernel_rfl) ?_ (by assumption) ?_
   rotate_left
   ·(intro w hSw; (try dsimp only at hSw); have c0' := Keep.cell (show Keep Nb W w from hSw) c0 (fun e => e); have c1' := Keep.cell (show Keep Nb W w from hSw) c1 (fun e => e); have c2' := Keep.cell (show Keep Nb W w from hSw) c2 (fun e => e); clear hSw; go_simp; try (with_reducible rfl))
   try simp only [Act.put, List.setIfInBounds_toArray, List.set_cons_zero, List.set_cons_succ]
   refine yesZ (i := 4) [5, 6, 11, 14] (d := some 28) (v := ?_) rfl (by kernel_rfl) (by kernel_rfl) (by kernel_rfl) (by kernel_rfl) (by kernel_rfl) (fun _ _ _ h => h) (by kernel_rfl) ?_ (by assumption) ?_
   rotate_left
   ·(intro w hSw; clear hSw; go_simp; try (with_reducible rfl))
   try simp only [Act.put, List.setIfInBounds_toArray, List.set_cons_zero, List.set_cons_succ]
   refine yesZ (i := 5) [6, 11, 14] (d := some 29) (v := ?_) rfl (by kernel_rfl) (by kernel_rfl) (by kernel_rfl) (by kernel_rfl) (by kernel_rfl) (fun _ _ _ h => h) (by kernel_rfl) ?_ (by assumption) ?_
   rotate_left
   ·(intro w hSw; (try dsimp only at hSw); have c0' := Keep.cell (show Keep Nb W w from hSw) c0 (fun e => e); have c1' := Keep.cell (show Keep Nb W w from hSw) c1 (fun e => e); have c2' := Keep.cell (show Keep Nb W w from hSw) c2 (fun e => e); clear hSw; go_simp; try (with_reducible rfl))
   try simp only [Act.put, List.setIfInBounds_toArray, List.set_cons_zero, List.set_cons_succ]
   refine yesZ (i := 9) [10, 11, 14] (d := some 33) (v := ?_) rfl (by kernel_rfl) (by kernel_rfl) (by kernel_rfl) (by kernel_rfl) (by kernel_rfl) (fun _ _ _ h => h) (by kernel_rfl) ?_ (by assumption) ?_
   rotate_left
   ·(intro w hSw; clear hSw; go_simp; try (with_reducible rfl))
   try simp only [Act.put, List.setIfInBounds_toArray, List.set_cons_zero, List.set_cons_succ]
   refine yesZ (i := 10) [11, 14] (d := some 34) (v := ?_) rfl (by kernel_rfl) (by kernel_rfl) (by kernel_rfl) (by kernel_rfl) (by kernel_rfl) (fun _ _ _ h => h) (by kernel_rfl) ?_ (by assumption) ?_
   rotate_left
   ·(intro w hSw; (try dsimp only at hSw); have c0' := Keep.cell (show Keep Nb W w from hSw) c0 (fun e => e); have c1' := Keep.cell (show Keep Nb W w from hSw) c1 (fun e => e); have c2' := Keep.cell (show Keep Nb W w from hSw) c2 (fun e => e); clear hSw; go_simp; try (with_reducible rfl))
   try simp only [Act.put, List.setIfInBounds_toArray, List.set_cons_zero, List.set_cons_succ]
   refine oneZ (i := 2) (by kernel_rfl) rfl (fun K hK => ?_)
   go_simp; (go_at_call 25; refine (HI1.out _ (show Keep Nb W _ from hHeld)).mono ?_; rintro e6 wB ⟨rfl, kB⟩; have kS := Keep.trans (show Keep Nb W _ from hHeld) kB; clear kB hHeld)
   refine hK.out _ _ ?_ (fun hHeld => ?_)
   ·exact kS
   clear hK K
   try simp only [Act.put, List.setIfInBounds_toArray, List.set_cons_zero, List.set_cons_succ]
   refine yesZ (i := 3) [7, 8, 12, 13, 14] (d := some 27) (v := ?_) rfl (by kernel_rfl) (by kernel_rfl) (by kernel_rfl) (by kernel_rfl) (by kernel_rfl) (fun _ _ _ h => h) (by kernel_rfl) ?_ (by assumption) ?_
   rotate_left
   ·(intro w hSw; clear hSw; go_simp; try (with_reducible rfl))
   try simp only [Act.put, List.setIfInBounds_toArray, List.set_cons_zero, List.set_cons_succ]
   refine oneZ (i := 6) (by kernel_rfl) rfl (fun K hK => ?_)
   go_simp; (go_at_call 25; refine (HI2.out _ (show Keep Nb W _ from hHeld)).mono ?_; rintro e6 wB ⟨rfl, kB⟩; have kS := Keep.trans (show Keep Nb W _ from hHeld) kB; clear kB hHeld)
   refine hK.out _ _ ?_ (fun hHeld => ?_)
   ·exact kS
   clear hK K
   try simp only [Act.put, List.setIfInBounds_toArray, List.set_cons_zero, List.set_cons_succ]
   refine yesZ (i := 7) [8, 12, 13, 14] (d := some 31) (v := ?_) rfl (by kernel_rfl) (by kernel_rfl) (by kernel_rfl) (by kernel_rfl) (by kernel_rfl) (fun _ _ _ h => h) (by kernel_rfl) ?_ (by assumption) ?_
   rotate_left
   ·(intro w hSw; clear hSw; go_simp; try (with_reducible rfl))
   try simp only [Act.put, List.setIfInBounds_toArray, List.set_cons_zero, List.set_cons_succ]
   refine yesZ (i := 8) [12, 13, 14] (d := some 32) (v := ?_) rfl (by kernel_rfl) (by kernel_rfl) (by kernel_rfl) (by kernel_rfl) (by kernel_rfl) (fun _ _ _ h => h) (by kernel_rfl) ?_ (by assumption) ?_
   rotate_left
   ·(intro w hSw; clear hSw; go_simp; try (with_reducible rfl))
   try simp only [Act.put, List.setIfInBounds_toArray, List.set_cons_zero, List.set_cons_succ]
   refine oneZ (i := 11) (by kernel_rfl) rfl (fun K hK => ?_)
   go_simp; (go_at_call 25; refine (HI3.out _ (show Keep Nb W _ from hHeld)).mono ?_; rintro e6 wB ⟨rfl, kB⟩; have kS := Keep.trans (show Keep Nb W _ from hHeld) kB; clear kB hHeld)
   refine hK.out _ _ ?_ (fun hHeld => ?_)
   ·exact kS
   clear hK K
   try simp only [Act.put, List.setIfInBounds_toArray, List.set_cons_zero, List.set_cons_succ]
   refine yesZ (i := 12) [13, 14] (d := some 36) (v := ?_) rfl (by kernel_rfl) (by kernel_rfl) (by kernel_rfl) (by kernel_rfl) (by kernel_rfl) (fun _ _ _ h => h) (by kernel_rfl) ?_ (by assumption) ?_
   rotate_left
   ·(intro w hSw; clear hSw; go_simp; try (with_reducible rfl))
   try simp only [Act.put, List.setIfInBounds_toArray, List.set_cons_zero, List.set_cons_succ]
   refine yesZ (i := 13) [14] (d := some 37) (v := ?_) rfl (by kernel_rfl) (by kernel_rfl) (by kernel_rfl) (by kernel_rfl) (by kernel_rfl) (fun _ _ _ h => h) (by kernel_rfl) ?_ (by assumption) ?_
   rotate_left
   ·(intro w hSw; clear hSw; go_simp; try (with_reducible rfl))
   try simp only [Act.put, List.setIfInBounds_toArray, List.set_cons_zero, List.set_cons_succ]
   refine lastZ (i := 14) (by kernel_rfl) rfl (by kernel_rfl) rfl (fun K hK => ?_)
   go_simp; (go_at_call 11; refine (HWS.out _ (show Keep Nb W _ from hHeld)).mono ?_; rintro e6 wC ⟨⟨v6, rfl⟩, hBC, kC⟩; have kS := (show Keep Nb W _ from hHeld))
   refine hK.out _ _ ?_
   clear hK K
   have HN : Hid (Bld wC B B (savedT n (es.take (i + 1))) ∧ Sl (fun k => w3.heap.size ≤ k) wC 125 3 (some ⟨go, 0, none⟩) m c4 (ecs es) ∧ Keep Nb w wC) := Lib.hid
    ⟨hBC, (HRW.out.1.keep kS (fun _ _ e => e)).keepW (by decide) (fun a ha => by cases ha; have h1 := HGB.out; show go ≠ B; omega) kC, (HRW.out.2.trans kS).trans' kC (fun _ _ e => e) (fun j hj e => by have h1 := HZ.out.1; have h2 := e.1; show False; omega)⟩
   clear hBC kC kS
   go_wp2_with fail
   go_roundg (m - (i + 1))
   case measure => omega
   case rel => exact ⟨i + 1, by go_num, by omega, Nat.le_refl _, HN⟩
  ·obtain rfl : m = i := by omega
   have hBf := HR.out.1
   rw [← HM.out, List.take_length] at hBf
   have HBS := Lib.hid (bstring_any wr B B (savedT n es) hBf hBw)
   clear hBf
   go_wp2_with fail
   refine HBS.out.mono ?_
   rintro e1 w9 ⟨rfl, hk9⟩
   have HKF : Hid (Keep Nb w w9) := Lib.hid (HR.out.2.2.trans' hk9 (fun _ _ e => e) (fun j hj e => by have h1 := HZ.out.1; have h2 := e.1; show False; omega))
   clear hk9
   go_wp2_with fail
   go_ret
   exact ⟨rfl, HKF.out⟩
end Go.Proofs.YtfglkgkihafcpaaGreatDoor

namespace Go.Proofs.YtfglkgkihafcpaaGreatDoor
open Go.RowKit Pl Go.Maps
set_option maxRecDepth 100000 in
theorem isavedK_any (F : Nat → Prop) (w : World) (xb n : Nat) (es : List E) (hX : IxK F w xb n es) (hL : LibW w) (hI : IOk n es) :
  Calls Tryz.prog 98 #[.pointer (some ⟨xb, 0, none⟩)] w fun e w' => e = .returned (.string (bstr (savedT n es))) ∧ Keep Nb w w' := by
 obtain ⟨Fg, Fb, Fc, gb, bb, fs, r2, r3, r4, hM, -⟩ := hX
 exact isaved_any Fg w xb gb n es _ _ _ _ hM.row hM.gr hL hI.n40 hI.le (fun e he => ⟨hI.ok.small e he, (hI.ok.over e he).1, (hI.ok.over e he).2⟩)
theorem pcs_cell {F : Nat → Prop} {w : World} {o : Option Addr} {m c : Nat} {L : List (Nat × Nat)} (hS : Sl F w 191 2 o m c (pcs L)) {a : Addr} (ha : o = some a) : ∀ (j : Nat) u, (pcs L)[j]? = some u → w.cell? (a.add j) = some u := by
 rcases hS.cases with ⟨rfl, _⟩ | ⟨g, rfl, _, _, _, hrow, _⟩
 ·cases ha
 ·cases ha
  intro j u hj
  have : (⟨g, 0, none⟩ : Addr).add j = ⟨g, j, none⟩ := by unfold Addr.add; split <;> simp_all
  rw [this]
  exact hrow.cell hj
theorem run_append_zero0 {P : Program} (w : World) (t ty e : TypeId) {z : Value} {size bytes : Nat} (ht : P.underlying t = some (.slice e)) (hE : ElemT P e z size bytes) (a : Addr) (b : Option Addr) (c c2 : Nat) :
  (Builtin.append_ #[t, t] ty #[.slice (some a) 0 c, .slice b 0 c2]).run P w = .ok (.slice (some a) 0 c) w := by
 obtain ⟨i, hi, hz, hs, hb⟩ := info_parts hE
 cases b <;> simp [Builtin.append_, run_underlying ht, sizeOf, typeInfo, hi, Builtin.lenOf, Builtin.firstCells, loadCells, loadCellsFrom, storeCells]
theorem run_copyP (w : World) (F : Nat → Prop) (o : Option Addr) (m c : Nat) (L : List (Nat × Nat)) (hS : Sl F w 191 2 o m c (pcs L)) (hm : m ≤ 100000) :
  ∃ (o' : Option Addr) (c' : Nat) (w' : World), (Builtin.append_ #[140, 140] 140 #[.slice (some ⟨w.heap.size, 0, none⟩) 0 0, .slice o m c]).run Tryz.prog (w.alloc (.cells #[] 191)) = .ok (.slice o' m c') w' ∧
   Sl (fun k => w.heap.size ≤ k) w' 191 2 o' m c' (pcs L) ∧ Keep Nb w w' := by
 have hB : Sl (fun k => k = w.heap.size) (w.alloc (.cells #[] 191)) 191 2 (some ⟨w.heap.size, 0, none⟩) 0 0 [] := Sl.built w 191 2 0 [] rfl (Nat.zero_le _)
 have hS1 := hS.alloc (.cells #[] 191)
 have kA : Keep Nb w (w.alloc (.cells #[] 191)) := (Keep.refl Nb w).alloc _
 have hlen : (pcs L).length = m * 2 := hS.len
 by_cases h0 : m = 0
 ·subst h0
  have hp : pcs L = [] := List.eq_nil_of_length_eq_zero (by rw [hlen])
  rw [hp]
  exact ⟨_, 0, _, run_append_zero0 _ 140 140 191 und_pairs elem_pair _ o 0 c, hB.mono (fun k hk => by rw [hk]; exact Nat.le_refl _), kA⟩
 ·obtain ⟨g, rfl, _, _, _⟩ := hS.pos (by omega)
  obtain ⟨g', c', w', r1, r2, r3, r4⟩ := run_app (P := Tryz.prog) 140 140 191 und_pairs elem_pair (by rfl) (by omega) hB ⟨g, 0, none⟩ m c (pcs L) hlen (pcs_cell hS1 rfl)
   (fun u hu => by
    unfold pcs at hu
    obtain ⟨p, _, hp⟩ := List.mem_flatMap.1 hu
    exact pcells_one p u hp) (by simp only [maxLen]; omega) (by omega) (by omega)
  rw [Nat.zero_add] at r1 r2
  rw [List.nil_append] at r2
  refine ⟨_, c', w', r1, r2.mono (fun k hk => ?_), kA.trans' r3 (fun _ _ e => e) (fun k hk e => ?_)⟩
  ·have hz : (w.alloc (.cells #[] 191)).heap.size = w.heap.size + 1 := by simp
   rcases hk with hk | hk
   ·rw [hk]; exact Nat.le_refl _
   ·rw [hk, hz]; exact Nat.le_succ _
  ·obtain ⟨a, ha, hab⟩ := e
   cases ha
   have hab : w.heap.size = k := hab
   omega
def ISplitsPost (F : Nat → Prop) (w : World) (xb n : Nat) (es : List E) (e : Ending) (w' : World) : Prop :=
 ∃ (o : Option Addr) (c : Nat), e = .returned (.slice o (allS (splitsB n es) n n).length c) ∧ Sl (fun k => w.heap.size ≤ k) w' 191 2 o (allS (splitsB n es) n n).length c (pcs (allS (splitsB n es) n n)) ∧ IStay F w xb n es w'
theorem allS_le (f : Nat → Nat → Bool) (n : Nat) : ∀ a : Nat, (allS f n a).length ≤ a * n
 | 0 => by simp [allS]
 | a + 1 => by
  have ih := allS_le f n a
  have h1 : allS f n (a + 1) = allS f n a ++ rowS f a n := by unfold allS; rw [List.range_succ, List.flatMap_append]; simp
  have h2 : (rowS f a n).length ≤ n := by unfold rowS; rw [List.length_map]; exact Nat.le_trans (List.length_filter_le _ _) (by simp)
  rw [h1, List.length_append, Nat.succ_mul]
  omega
theorem allS_len (f : Nat → Nat → Bool) (n : Nat) (hn : n ≤ 40) : (allS f n n).length ≤ 100000 :=
 Nat.le_trans (allS_le f n n) (Nat.le_trans (Nat.mul_le_mul hn hn) (by decide))
set_option maxRecDepth 100000 in
set_option maxHeartbeats 1000000 in
theorem iSplits_any (F : Nat → Prop) (w : World) (xb n : Nat) (es : List E) (hX : IxK F w xb n es) (hI : IOk n es) :
  Calls Tryz.prog 99 #[.pointer (some ⟨xb, 0, none⟩)] w (ISplitsPost F w xb n es) := by
 obtain ⟨Fg, Fb, Fc, gb, bb, fs, r2, r3, r4, hM, hF⟩ := hX
 have hlen := allS_len (splitsB n es) n hI.n40
 have c0 := hM.row.cell (i := 0) rfl
 have c4 := hM.row.cell (i := 4) rfl
 have f4 := hM.row.frozen 4 none
 have HM := Lib.hid hM
 have HF := Lib.hid hF
 have HI := Lib.hid hI
 have HPS := Lib.hid (pairs_any Fg w gb n es hM.gr (fun k h => (hM.g k h).2.2.2) hI.n40 (by have := hI.le; omega) hI.ok.over)
 unfold PairsPost at HPS
 unfold ISplitsPost
 obtain ⟨L, hL⟩ : ∃ L, allS (splitsB n es) n n = L := ⟨_, rfl⟩
 obtain ⟨m, hm⟩ : ∃ m, L.length = m := ⟨_, rfl⟩
 have hPA : ∀ (F : Nat → Prop) (w : World) (pb : Nat) (o : Option Addr) (c : Nat), Row w pb 140 [.slice o m c] → Sl F w 191 2 o m c (pcs L) → F pb → PsAt F w pb n es := fun F w pb o c h1 h2 h3 => by
  unfold PsAt
  rw [hL, hm]
  exact ⟨o, c, h1, h2, h3⟩
 have hPB : ∀ {F : Nat → Prop} {w : World} {pb : Nat}, PsAt F w pb n es → ∃ (o : Option Addr) (c : Nat), Row w pb 140 [.slice o m c] ∧ Sl F w 191 2 o m c (pcs L) ∧ F pb := fun h => by
  unfold PsAt at h
  rw [hL, hm] at h
  exact h
 rw [hL, hm] at HPS hlen ⊢
 have HPA := Lib.hid hPA
 rcases hM.kn.p with rfl | ⟨pb, rfl, hP⟩
 ·clear hM hF hI hL hm hPA hPB
  go_enter Tryz.func99, Tryz.ntmps99
  go_wp2_with fail
  refine HPS.out.mono ?_
  rintro e w1 ⟨o, c, rfl, hS, hk⟩
  obtain ⟨pb, hpb⟩ : ∃ pb, w1.heap.size = pb := ⟨_, rfl⟩
  obtain ⟨W1, hW1⟩ : ∃ W1, w1.alloc (.cells #[.slice none 0 0] 140) = W1 := ⟨_, rfl⟩
  have hR1 : Row W1 pb 140 [.slice none 0 0] := by rw [← hW1, ← hpb]; exact Row.new w1 #[.slice none 0 0] 140
  have kA : Keep Nb w1 W1 := by rw [← hW1]; exact (Keep.refl Nb w1).alloc _
  have d0 := hR1.cell (i := 0) rfl
  have g0 := hR1.frozen 0 none
  obtain ⟨W2, hW2⟩ : ∃ W2, W1.setCell ⟨pb, 0, none⟩ (.slice o m c) = W2 := ⟨_, rfl⟩
  have hwpb : w.heap.size ≤ pb := by rw [← hpb]; exact hk.size
  have hR2 : Row W2 pb 140 [.slice o m c] := by rw [← hW2]; exact hR1.set (i := 0) (by simp) _
  have kB : Keep (fun j => j = pb) W1 W2 := by rw [← hW2]; exact (Keep.refl (fun j => j = pb) W1).setCell (.inl rfl) _
  have k2 : Keep Nb w W2 := (hk.trans kA).trans' kB (fun _ _ e => e) (fun j hj e => by show False; omega)
  have hS2 : Sl (fun k => w.heap.size ≤ k ∧ k < w1.heap.size) W2 191 2 o m c (pcs L) := ((hS.tight).keep kA (fun _ _ e => e)).keep kB (fun j h1 h2 => by have := h1.2; omega)
  have hX2 := HM.out.row.keep k2 (fun e => e)
  have e4 := hX2.cell (i := 4) rfl
  have y4 := hX2.frozen 4 none
  obtain ⟨W3, hW3⟩ : ∃ W3, W2.setCell ⟨xb, 4, none⟩ (.pointer (some ⟨pb, 0, none⟩)) = W3 := ⟨_, rfl⟩
  have kC : Keep (fun j => j = xb) W2 W3 := by rw [← hW3]; exact (Keep.refl (fun j => j = xb) W2).setCell (.inl rfl) _
  have hxl := HM.out.row.lt
  have z1 := hk.size
  have hz2 : pb < W2.heap.size := hR2.lt
  have hX3 : Row W3 xb 100 [.pointer (some ⟨gb, 0, none⟩), .pointer (some ⟨bb, 0, none⟩), r2, r3, .pointer (some ⟨pb, 0, none⟩)] := by rw [← hW3]; exact hX2.set (i := 4) (by simp) (.pointer (some ⟨pb, 0, none⟩))
  have e5 := hX3.cell (i := 4) rfl
  have hR3 := hR2.keep kC (fun e => by omega)
  have d5 := hR3.cell (i := 0) rfl
  have hS3 := hS2.keep kC (fun j h1 h2 => by omega)
  have hST : IStay F w xb n es W3 := by
   rw [← hW3]
   refine HM.out.learn (Fn := fun k => w.heap.size ≤ k ∧ k < W2.heap.size) HF.out k2 rfl (by omega) (fun j hj => hj) ⟨?_, ?_, .inr ⟨pb, rfl, ?_⟩⟩
   ·rcases HM.out.kn.b with e | ⟨cv, e, hc⟩
    ·exact .inl e
    ·exact .inr ⟨cv, e, by rw [hW3]; exact ((hc.keep k2 (fun _ _ e => e)).keep kC (fun k h1 h2 => (HM.out.k k h1).1 h2)).mono (fun _ h => .inl h)⟩
   ·rcases HM.out.kn.c with e | ⟨cv, e, hc⟩
    ·exact .inl e
    ·exact .inr ⟨cv, e, by rw [hW3]; exact ((hc.keep k2 (fun _ _ e => e)).keep kC (fun k h1 h2 => (HM.out.k k h1).1 h2)).mono (fun _ h => .inl h)⟩
   ·rw [hW3]
    exact HPA.out _ _ _ _ _ hR3 (hS3.mono (fun k hk => .inr (by omega))) (.inr (by omega))
  obtain ⟨o', c', W4, q1, q2, q3⟩ := run_copyP W3 _ o m c L hS3 hlen
  obtain ⟨WA, hWA⟩ : ∃ WA, W3.alloc (.cells #[] 191) = WA := ⟨_, rfl⟩
  have kWA : Keep Nb W3 WA := by rw [← hWA]; exact (Keep.refl Nb W3).alloc _
  have a4 : WA.cell? ⟨xb, 4, none⟩ = some (.pointer (some ⟨pb, 0, none⟩)) := kWA.cell e5 (fun e => e)
  have a0 : WA.cell? ⟨pb, 0, none⟩ = some (.slice o m c) := kWA.cell d5 (fun e => e)
  rw [hWA] at q1
  have Q1 := Lib.hid q1
  have HE : Hid (∃ (o'' : Option Addr) (c'' : Nat), (Ending.returned (.slice o' m c') : Ending) = .returned (.slice o'' m c'') ∧ Sl (fun k => w.heap.size ≤ k) W4 191 2 o'' m c'' (pcs L) ∧ IStay F w xb n es W4) :=
   Lib.hid ⟨o', c', rfl, q2.mono (fun k hk => by have := hST.2.size; have hk : W3.heap.size ≤ k := hk; omega), hST.keep q3⟩
  clear hS hk hR1 kA hR2 kB k2 hS2 hX2 kC hX3 hR3 hS3 hST q1 q2 q3 HPS c0 c4 f4 kWA e5 d5
  go_wp2_with (at_builtin; refine wpList_app rfl _ _ _ rfl rfl rfl Q1.out ?_)
  go_ret
  exact HE.out
 ·obtain ⟨o, c, hR, hS, hpb⟩ := hPB hP
  obtain ⟨o', c', W4, q1, q2, q3⟩ := run_copyP w _ o m c L hS hlen
  obtain ⟨WA, hWA⟩ : ∃ WA, w.alloc (.cells #[] 191) = WA := ⟨_, rfl⟩
  have kWA : Keep Nb w WA := by rw [← hWA]; exact (Keep.refl Nb w).alloc _
  have a4 : WA.cell? ⟨xb, 4, none⟩ = some (.pointer (some ⟨pb, 0, none⟩)) := kWA.cell c4 (fun e => e)
  have a0 : WA.cell? ⟨pb, 0, none⟩ = some (.slice o m c) := kWA.cell (hR.cell (i := 0) rfl) (fun e => e)
  rw [hWA] at q1
  have Q1 := Lib.hid q1
  have HE : Hid (∃ (o'' : Option Addr) (c'' : Nat), (Ending.returned (.slice o' m c') : Ending) = .returned (.slice o'' m c'') ∧ Sl (fun k => w.heap.size ≤ k) W4 191 2 o'' m c'' (pcs L) ∧ IStay F w xb n es W4) :=
   Lib.hid ⟨o', c', rfl, q2, (hM.stays hF).keep q3⟩
  clear hM hF hI hL hm hPA hPB hP hR hS hpb q1 q2 q3 HPS kWA c0 f4
  go_enter Tryz.func99, Tryz.ntmps99
  go_wp2_with (at_builtin; refine wpList_app rfl _ _ _ rfl rfl rfl Q1.out ?_)
  go_ret
  exact HE.out
end Go.Proofs.YtfglkgkihafcpaaGreatDoor

namespace Go.Proofs.YtfglkgkihafcpaaGreatDoor
open Go.RowKit Pl
def thrown (r : Int) : Ending := .panicked [{ v := .iface 68 (.agg #[.int .i64 r]), recovered := false }]
theorem must_nil (w : World) : Calls Tryz.prog 20 #[.nilIface] w fun e w' => e = .returned (.tuple #[]) ∧ w' = w := by
 go_enter Tryz.func20, Tryz.ntmps20
 go_wp2_with fail
 go_end0
 exact ⟨rfl, rfl⟩
set_option maxRecDepth 100000 in
theorem must_err (r : Int) (w : World) (hg : ErrT w) : Calls Tryz.prog 20 #[.iface 47 (.int .i64 r)] w fun e w' => e = thrown r ∧ Keep Nb w w' := by
 have HG := Lib.hid hg
 clear hg
 go_enter Tryz.func20, Tryz.ntmps20
 go_wp2_with fail
 refine (tell_hit r w HG.out).mono ?_
 rintro e w1 ⟨rfl, hk⟩
 have HK := Lib.hid hk
 clear hk
 go_wp2_with fail
 exact ⟨rfl, rfl, HK.out⟩
def SlR (w : World) (o : Option Addr) (m : Nat) (l : List Value) : Prop :=
 l.length = m ∧ (m = 0 ∨ ∃ (g off : Nat) (pre : List Value), o = some ⟨g, off, none⟩ ∧ pre.length = off ∧ Row w g 9 (pre ++ l))
theorem SlR.keep {w w' : World} {o : Option Addr} {m : Nat} {l : List Value} (h : SlR w o m l) (k : Keep Nb w w') : SlR w' o m l := by
 obtain ⟨h1, h2 | ⟨g, off, pre, h3, h4, h5⟩⟩ := h
 ·exact ⟨h1, .inl h2⟩
 ·exact ⟨h1, .inr ⟨g, off, pre, h3, h4, h5.keep k (fun e => e)⟩⟩
theorem SlR.at {w : World} {o : Option Addr} {m : Nat} {l : List Value} (h : SlR w o m l) (hm : 0 < m) : ∃ g off : Nat, o = some ⟨g, off, none⟩ ∧ ∀ i v, l[i]? = some v → w.cell? ⟨g, off + i, none⟩ = some v := by
 obtain ⟨_, h2 | ⟨g, off, pre, h3, h4, h5⟩⟩ := h
 ·omega
 ·refine ⟨g, off, h3, fun i v hv => h5.cell ?_⟩
  rw [List.getElem?_append_right (by omega), ← hv]
  congr 1; omega
theorem Sl.toR {F : Nat → Prop} {w : World} {o : Option Addr} {m c : Nat} {l : List Value} (h : Sl F w 9 1 o m c l) : SlR w o m l := by
 refine ⟨by have := h.len; omega, ?_⟩
 rcases Nat.eq_zero_or_pos m with e | e
 ·exact .inl e
 ·obtain ⟨g, h1, _, _, h2⟩ := h.pos e
  exact .inr ⟨g, 0, [], h1, rfl, h2⟩
theorem SlR.tail {w : World} {g off : Nat} {m : Nat} {v : Value} {l : List Value} (h : SlR w (some ⟨g, off, none⟩) (m + 1) (v :: l)) : SlR w (some ⟨g, off + 1, none⟩) m l := by
 obtain ⟨h1, h2 | ⟨g', off', pre, h3, h4, h5⟩⟩ := h
 ·omega
 ·cases h3
  exact ⟨by simpa using h1, .inr ⟨g, off + 1, pre ++ [v], rfl, by simp [h4], by simpa using h5⟩⟩
def numA (l : List UInt8) : Option Int := match Lib.atoiAll l with
 | .ok v => if Lib.itoa v = l then some v else none
 | _ => none
def zvalsD (l : List Int) : List Value := l.map (Value.int .i64)
def numsD : List (List UInt8) → Option (List Int)
 | [] => some []
 | x :: xs => match numA x, numsD xs with
  | some v, some vs => some (v :: vs)
  | _, _ => none
theorem numsD_bad {l : List (List UInt8)} {i : Nat} {x : List UInt8} (h : l[i]? = some x) (hx : numA x = none) : numsD l = none := by
 induction l generalizing i with
 | nil => simp at h
 | cons y l ih =>
  cases i with
  | zero => simp at h; subst h; simp [numsD, hx]
  | succ i =>
   have := ih (i := i) (by simpa using h)
   simp only [numsD, this]
   split <;> simp_all
theorem numsD_all {l : List (List UInt8)} {vs : List Int} (h : l.map numA = vs.map some) : numsD l = some vs := by
 induction l generalizing vs with
 | nil => cases vs with | nil => rfl | cons v vs => simp at h
 | cons y l ih =>
  cases vs with
  | nil => simp at h
  | cons v vs =>
   simp only [List.map_cons, List.cons.injEq] at h
   simp only [numsD, h.1, ih h.2]
def NumsPost (w : World) (l : List (List UInt8)) (n : Nat) (e : Ending) (w' : World) : Prop :=
 Keep Nb w w' ∧ ((∃ vs o c, l.length = n ∧ numsD l = some vs ∧ vs.length = n ∧ e = .returned (.slice o n c) ∧ Sl (fun k => w.heap.size ≤ k) w' 3 1 o n c (zvalsD vs)) ∨ ((l.length ≠ n ∨ numsD l = none) ∧ e = thrown 3))
def NmRel (w : World) (l : List (List UInt8)) (i : Nat) (vs : List Int) (o : Option Addr) (c : Nat) (wr : World) : Prop :=
 (l.take i).map numA = vs.map some ∧ Sl (fun k => w.heap.size ≤ k) wr 3 1 o i c (zvalsD vs) ∧ Keep Nb w wr
set_option maxRecDepth 100000 in
set_option maxHeartbeats 2000000 in
theorem numbers_any (w : World) (hL : LibW w) (hE : ErrT w) (o : Option Addr) (m c : Nat) (l : List (List UInt8)) (hS : SlR w o m (strs (l.map bstr))) (hm : l.length = m) (hm2 : m ≤ 100000) (hl : ∀ x, x ∈ l → x.length ≤ 100000) (n : Nat) (hn : n ≤ 100) :
  Calls Tryz.prog 19 #[.slice o m c, .int .i64 n] w (NumsPost w l n) := by
 have HL := Lib.hid hL
 have HE := Lib.hid hE
 have HS := Lib.hid hS
 have HM := Lib.hid hm
 have HLL := Lib.hid hl
 clear hL hE hS hm hl
 by_cases hmn : m = n
 ·subst hmn
  go_enter Tryz.func19, Tryz.ntmps19
  go_wp2_with fail
  go_loopg [5, 18] m (fun kx s5 s18 wr => ∃ (i : Nat) (vs : List Int) (o5 : Option Addr) (c5 : Nat), s5 = .slice o5 i c5 ∧ s18 = .int .i64 i ∧ i ≤ m ∧ m - i ≤ kx ∧ Hid (NmRel w l i vs o5 c5 wr))
  case atStart => exact ⟨0, [], none, 0, rfl, rfl, Nat.zero_le _, by omega, Lib.hid ⟨by simp, Sl.nil _ _ _ _, Keep.refl _ _⟩⟩
  case round =>
   obtain ⟨i, vs, o5, c5, rfl, rfl, hi, hg, HR⟩ := hrel
   by_cases hlt : i < m
   ·obtain ⟨x, hx⟩ : ∃ x, l[i]? = some x := ⟨l[i]'(by rw [HM.out]; exact hlt), List.getElem?_eq_getElem _⟩
    have hxl := HLL.out x (List.mem_of_getElem? hx)
    obtain ⟨g, off, rfl, hrow⟩ := (HS.out.keep HR.out.2.2).at (by omega)
    have d0 : wr.cell? ⟨g, off + i, none⟩ = some (.string (bstr x)) := hrow i _ (by simp [strs, hx])
    have HX := Lib.hid hx
    have HA := Lib.hid (atoi_any wr (HL.out.keep HR.out.2.2) (bstr x) (by rw [bstr_size]; omega))
    clear hx hrow
    go_wp2_with fail
    refine HA.out.mono ?_
    rintro e w1 ⟨⟨v, (⟨hv, rfl⟩ | ⟨hno, tt, p, rfl⟩)⟩, hk1⟩
    ·have hv : Lib.atoiAll x = .ok v := hv
     have hb := Lib.atoiAll_bounds hv
     have HK1 := Lib.hid (HR.out.2.2.trans hk1)
     have HKW := Lib.hid hk1
     have HI := Lib.hid (itoa_any w1 (HL.out.keep HK1.out) v hb.1 hb.2)
     have hva : numA x = if Lib.itoa v = x then some v else none := by unfold numA; rw [hv]
     have HV := Lib.hid hva
     clear hv hk1 hva HA
     go_wp2_with fail
     refine HI.out.mono ?_
     rintro e w2 ⟨rfl, hk2⟩
     by_cases hq : Lib.itoa v = x
     ·obtain ⟨tx, htx⟩ : ∃ tx, Lib.itoa v = tx := ⟨_, rfl⟩
      have hr2 := (HR.out.2.1.keep HKW.out (fun _ _ e => e)).keep hk2 (fun _ _ e => e)
      obtain ⟨gq, cq, w3, r1, r2, r3, r4⟩ := run_app1 (P := Tryz.prog) 63 63 3 Tryz.underlying63 elem_int rfl hr2 (.int .i64 v) rfl (by omega) (by omega)
      have hz2 : w.heap.size ≤ w2.heap.size := (HK1.out.trans hk2).size
      have HN : Hid (NmRel w l (i + 1) (vs ++ [v]) (some ⟨gq, 0, none⟩) cq w3) := Lib.hid (by
       refine ⟨?_, ?_, (HK1.out.trans hk2).trans' r3 (fun _ _ e => e) (fun k hk e => ?_)⟩
       ·rw [List.take_add_one, HX.out, List.map_append, HR.out.1]
        simp [HV.out, hq]
       ·have : zvalsD (vs ++ [v]) = zvalsD vs ++ [.int .i64 v] := by simp [zvalsD]
        rw [this]
        exact r2.mono (fun k hk => by
         rcases hk with hk | hk
         ·exact hk
         ·rw [hk]; exact Nat.le_succ_of_le hz2)
       ·obtain ⟨a, ha, hab⟩ := e
        have := hr2.foot a ha
        rw [hab] at this
        omega)
      have R1 := Lib.hid r1
      rw [htx]
      rw [htx] at hq
      subst hq
      clear r1 r2 r3 r4 hr2 hk2 HI htx
      go_wp2_with (at_builtin; refine wpList_app rfl _ _ _ rfl rfl rfl R1.out ?_)
      have hwi : IntKind.i64.wrap ((i : Int) + 1) = (i : Int) + 1 := IntWalk.i64_in _ (by omega)
      go_roundg (m - (i + 1))
      case measure => omega
      case rel => exact ⟨i + 1, _, _, _, by go_num, by go_num, by omega, Nat.le_refl _, HN⟩
     ·have HK2 := Lib.hid (HK1.out.trans hk2)
      have HNO : Hid (numsD l = none) := Lib.hid (numsD_bad HX.out (by rw [HV.out, if_neg hq]))
      obtain ⟨tx, htx⟩ : ∃ tx, Lib.itoa v = tx := ⟨_, rfl⟩
      rw [htx] at hq ⊢
      have hq1 : (tx == x) = false := by simp [hq]
      have hq2 : decide (tx = x) = false := by simp [hq]
      clear hk2 HI htx
      go_wp2_with fail
      refine (must_err 3 w2 (HE.out.keep HK2.out (fun e => e))).mono ?_
      rintro e w3 ⟨rfl, hk3⟩
      exact ⟨rfl, HK2.out.trans hk3, .inr ⟨.inr HNO.out, rfl⟩⟩
    ·have HK1 := Lib.hid (HR.out.2.2.trans hk1)
     have HNO : Hid (numsD l = none) := Lib.hid (numsD_bad HX.out (by
      unfold numA
      cases he : Lib.atoiAll x with
      | ok u => exact absurd he (hno u)
      | _ => rfl))
     clear hk1 hno HA
     go_wp2_with fail
     refine (must_err 3 w1 (HE.out.keep HK1.out (fun e => e))).mono ?_
     rintro e w3 ⟨rfl, hk3⟩
     exact ⟨rfl, HK1.out.trans hk3, .inr ⟨.inr HNO.out, rfl⟩⟩
   ·obtain rfl : m = i := by omega
    have HP : Hid (NumsPost w l m (.returned (.slice o5 m c5)) wr) := Lib.hid ⟨HR.out.2.2, .inl ⟨vs, o5, c5, HM.out, numsD_all (by have h := HR.out.1; rwa [List.take_of_length_le (by rw [HM.out]; exact Nat.le_refl _)] at h), by have h := HR.out.2.1.len; simpa [zvalsD] using h, rfl, HR.out.2.1⟩⟩
    clear HR
    go_wp2_with fail
    go_ret
    exact HP.out
 ·have hmi : ((m : Int) != (n : Int)) = true := by rw [bne_iff_ne]; omega
  go_enter Tryz.func19, Tryz.ntmps19
  go_wp2_with fail
  refine (must_err 3 w HE.out).mono ?_
  rintro e w3 ⟨rfl, hk3⟩
  exact ⟨rfl, hk3, .inr ⟨.inl (by rw [HM.out]; exact hmn), rfl⟩⟩
end Go.Proofs.YtfglkgkihafcpaaGreatDoor

namespace Go.Proofs.YtfglkgkihafcpaaGreatDoor
open Go.RowKit Pl
theorem elem_str : ElemT Tryz.prog 9 (.string ByteArray.empty) 1 16 := by unfold ElemT; kernel_rfl
def wordsT (l : List Nat) : List UInt8 := Lib.join (l.map (fun x : Nat => Lib.itoa (x : Int))) [32]
theorem join_cons2 (x y : List UInt8) (r : List (List UInt8)) (sep : List UInt8) : Lib.join (x :: y :: r) sep = x ++ sep ++ Lib.join (y :: r) sep := by
 rw [Lib.join_cons, Lib.join_cons]; simp [Lib.joinTail]
theorem join_len : ∀ (l : List (List UInt8)) (k : Nat), (∀ x, x ∈ l → x.length ≤ k) → (Lib.join l [32]).length ≤ (k + 1) * l.length
 | [], k, _ => by simp [Lib.join_nil]
 | [x], k, h => by have := h x (by simp); rw [Lib.join_one]; simp; omega
 | x :: y :: r, k, h => by
  have h1 := h x (by simp)
  have h2 := join_len (y :: r) k (fun z hz => h z (List.mem_cons_of_mem _ hz))
  rw [join_cons2]
  simp only [List.length_append, List.length_cons, List.length_nil] at h2 ⊢
  have h3 : (k + 1) * (r.length + 1 + 1) = (k + 1) * (r.length + 1) + (k + 1) := by rw [Nat.mul_add, Nat.mul_one]
  omega
end Go.Proofs.YtfglkgkihafcpaaGreatDoor

