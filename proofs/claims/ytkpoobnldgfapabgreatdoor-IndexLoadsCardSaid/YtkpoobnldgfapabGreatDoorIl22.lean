/- Part 22 of the proof: ISav. -/
import Derived.Test.YtkpoobnldgfapabGreatDoorIl10
import Derived.Test.YtkpoobnldgfapabGreatDoorIl19
import Derived.Test.YtkpoobnldgfapabGreatDoorIl20
import Derived.Test.YtkpoobnldgfapabGreatDoorIl21
import Derived.Deep.DeepCutAuto
import Derived.Deep.LoopGhost
set_option linter.unusedVariables false
set_option linter.unusedSimpArgs false
namespace Go.Proofs.YtkpoobnldgfapabGreatDoor
open Go.RowKit Pl
theorem Sl.keepW {F : Nat → Prop} {w w' : World} {T : TypeId} {sz n c : Nat} {o : Option Addr} {l : List Value} {B b : Nat} (h : Sl F w T sz o n c l) (hT : T ≠ 5) (hb : ∀ a, o = some a → a.block ≠ b) (k : Keep (WG w B b) w w') : Sl F w' T sz o n c l :=
  h.of_block fun a ha => k.block _ (h.lt ha) (by
    rcases h.cases with ⟨e, _⟩ | ⟨g, e, _, _, _, hrow, _⟩
    · rw [e] at ha; cases ha
    · rw [e] at ha; cases ha
      exact hrow.notWG hT (hb _ e))
theorem bs_app (a b : List UInt8) : bstr a ++ bstr b = bstr (a ++ b) := by
  apply ByteArray.ext
  rw [ByteArray.data_append]
  simp
set_option maxRecDepth 100000 in
set_option maxHeartbeats 4000000 in
theorem isaved_any (F : Nat → Prop) (w : World) (xb gb n : Nat) (es : List E) (r1 r2 r3 r4 : Value) (hX : Row w xb 155 [.pointer (some ⟨gb, 0, none⟩), r1, r2, r3, r4]) (hG : Gr F w gb n es) (hL : LibW w) (hn : n ≤ 40) (hl : es.length ≤ 120)
    (hs : ∀ e, e ∈ es → e.id < 4611686018427387904 ∧ e.a < n ∧ e.b < n) :
    Calls Tryz.prog 50 #[.pointer (some ⟨xb, 0, none⟩)] w fun e w' => e = .returned (.string (bstr (savedT n es))) ∧ Keep Nb w w' := by
  have HX := Lib.hid hX
  have HG := Lib.hid hG
  have HL := Lib.hid hL
  have HS := Lib.hid hs
  clear hX hG hL hs
  go_enter Tryz.func50, Tryz.ntmps50
  obtain ⟨B, hB⟩ : ∃ B, w.heap.size = B := ⟨_, rfl⟩
  obtain ⟨w1, hw1⟩ : ∃ w1, w.alloc (.cells #[.pointer none, .slice none 0 0] 159) = w1 := ⟨_, rfl⟩
  have k1 : Keep Nb w w1 := by rw [← hw1]; exact (Keep.refl Nb w).alloc _
  have hBl : Bld w1 B B [] := by rw [← hw1, ← hB]; exact Bld.made w
  have hz1 : w1.heap.size = B + 1 := by rw [← hw1, ← hB]; simp
  have x0 := (HX.out.keep k1 (fun e => e)).cell (i := 0) rfl
  have HBL := Lib.hid hBl
  have HK1 := Lib.hid k1
  have HZ := Lib.hid (And.intro hB hz1)
  have HNO := Lib.hid (nodes_any F w1 gb n es (HG.out.keep k1 (fun _ _ e => e)))
  clear k1 hBl hz1
  go_wp2_with fail
  try rw [hw1]
  try rw [hB]
  clear hw1 hB
  refine HNO.out.mono ?_
  rintro e1 w1 ⟨rfl, rfl⟩
  obtain ⟨tn, htn⟩ : ∃ tn, Lib.itoa (n : Int) = tn := ⟨_, rfl⟩
  have hln : tn.length ≤ 21 := by rw [← htn]; exact itoa_len (by omega)
  have HTN := Lib.hid htn
  have HIT := Lib.hid (itoa_any w1 (HL.out.keep HK1.out) (n : Int) (by omega) (by omega))
  rw [htn] at HIT
  have q1 : ¬ 9223372036854775807 < tn.length + 1 := by omega
  clear HNO htn
  go_wp2_with fail
  refine HIT.out.mono ?_
  rintro e1 w2 ⟨rfl, hk2⟩
  have HWS := Lib.hid (wstr_any w2 B B [] (bstr tn ++ ⟨#[10]⟩) (HBL.out.keepN hk2) (by
    have h2 : (bstr tn ++ ⟨#[10]⟩) = bstr (tn ++ [10]) := bs_app _ [10]
    rw [h2, bstr_size]; simp; omega) (by have := hk2.size; have := HZ.out.2; omega))
  have HK2 := Lib.hid (HK1.out.trans hk2)
  clear hk2 HIT
  go_wp2_with fail
  refine HWS.out.mono ?_
  rintro e1 w3 ⟨rfl, hB3, hk3⟩
  have hk03 : Keep Nb w w3 := HK2.out.trans' hk3 (fun _ _ e => e) (fun j hj e => by have h1 := HZ.out.1; have h2 := e.1; show False; omega)
  have hB3 : Bld w3 B B (savedT n (es.take 0)) := by
    have h2 : (bstr tn ++ ⟨#[10]⟩) = bstr (tn ++ [10]) := bs_app _ [10]
    rw [h2, bstr_list, List.nil_append] at hB3
    rw [List.take_zero, savedT_zero, HTN.out]
    exact hB3
  have x0 := (HX.out.keep hk03 (fun e => e)).cell (i := 0) rfl
  have HB3 := Lib.hid hB3
  have HK3 := Lib.hid hk03
  have HE := Lib.hid (edges_any F w3 gb n es (HG.out.keep hk03 (fun _ _ e => e)) (by omega))
  clear hB3 hk3 hk03 HWS q1
  go_wp2_with fail
  refine HE.out.mono ?_
  rintro e1 w4 ⟨o4, c4, rfl, hS4, hk4⟩
  obtain ⟨m, hm⟩ : ∃ m, es.length = m := ⟨_, rfl⟩
  rw [hm] at hS4 hl ⊢
  have HM := Lib.hid hm
  have hz3 : B + 1 ≤ w3.heap.size := by have h1 := HB3.out.lt; omega
  have H0 : Hid (Bld w4 B B (savedT n (es.take 0)) ∧ Sl (fun k => w3.heap.size ≤ k) w4 42 3 o4 m c4 (ecs es) ∧ Keep Nb w w4) := Lib.hid ⟨HB3.out.keepN hk4, hS4, HK3.out.trans hk4⟩
  clear hS4 hk4 hm HE x0
  go_wp2_with fail
  go_loopg [20] m (fun kx s20 wr => ∃ i : Nat, s20 = .int .i64 i ∧ i ≤ m ∧ m - i ≤ kx ∧ Hid (Bld wr B B (savedT n (es.take i)) ∧ Sl (fun k => w3.heap.size ≤ k) wr 42 3 o4 m c4 (ecs es) ∧ Keep Nb w wr))
  case atStart => exact ⟨0, rfl, Nat.zero_le _, by omega, H0⟩
  case round =>
    clear H0
    obtain ⟨i, rfl, hi, hg, HR⟩ := hrel
    have hBw : B ≤ wr.heap.size := by have := HR.out.2.2.size; have := HZ.out.1; omega
    by_cases hlt : i < m
    · as_aux_lemma =>
      obtain ⟨e, he⟩ : ∃ e, es[i]? = some e := ⟨_, List.getElem?_eq_getElem (by rw [HM.out]; exact hlt)⟩
      have hsm := HS.out e (List.mem_of_getElem? he)
      obtain ⟨go, rfl, hFg, hnc, hrow⟩ := HR.out.2.1.pos (by omega)
      have d0 := hrow.edges.id _ _ he
      have d1 := hrow.edges.a _ _ he
      have d2 := hrow.edges.b _ _ he
      obtain ⟨X, hX⟩ : ∃ X, wr.heap.size = X := ⟨_, rfl⟩
      obtain ⟨W, hW⟩ : ∃ W, wr.alloc (.cells #[.int .i64 e.id, .int .i64 e.a, .int .i64 e.b] 42) = W := ⟨_, rfl⟩
      have kW : Keep Nb wr W := by rw [← hW]; exact (Keep.refl Nb wr).alloc _
      have hRX : Row W X 42 (ecells e) := by rw [← hW, ← hX]; exact Row.new wr #[.int .i64 e.id, .int .i64 e.a, .int .i64 e.b] 42
      have c0 := hRX.cell (i := 0) rfl
      have c1 := hRX.cell (i := 1) rfl
      have c2 := hRX.cell (i := 2) rfl
      obtain ⟨ta, hta⟩ : ∃ t, Lib.itoa (e.id : Int) = t := ⟨_, rfl⟩
      obtain ⟨tb, htb⟩ : ∃ t, Lib.itoa (e.a : Int) = t := ⟨_, rfl⟩
      obtain ⟨tc, htc⟩ : ∃ t, Lib.itoa (e.b : Int) = t := ⟨_, rfl⟩
      have ha : ta.length ≤ 21 := by rw [← hta]; exact itoa_len (by omega)
      have hb : tb.length ≤ 21 := by rw [← htb]; exact itoa_len (by omega)
      have hc : tc.length ≤ 21 := by rw [← htc]; exact itoa_len (by omega)
      have HLW := Lib.hid (HL.out.keep (HR.out.2.2.trans kW))
      have HI1 : Hid (∀ wx, Keep Nb W wx → Calls Tryz.prog 114 #[.int .i64 (e.id : Nat)] wx fun e' w' => e' = .returned (.string (bstr ta)) ∧ Keep Nb wx w') := Lib.hid (fun wx k => by rw [← hta]; exact itoa_any wx (HLW.out.keep k) _ (by omega) (by omega))
      have HI2 : Hid (∀ wx, Keep Nb W wx → Calls Tryz.prog 114 #[.int .i64 (e.a : Nat)] wx fun e' w' => e' = .returned (.string (bstr tb)) ∧ Keep Nb wx w') := Lib.hid (fun wx k => by rw [← htb]; exact itoa_any wx (HLW.out.keep k) _ (by omega) (by omega))
      have HI3 : Hid (∀ wx, Keep Nb W wx → Calls Tryz.prog 114 #[.int .i64 (e.b : Nat)] wx fun e' w' => e' = .returned (.string (bstr tc)) ∧ Keep Nb wx w') := Lib.hid (fun wx k => by rw [← htc]; exact itoa_any wx (HLW.out.keep k) _ (by omega) (by omega))
      have hll : (savedT n (es.take i)).length ≤ 10000 := by
        have h1 := savedT_len (n := n) (es := es.take i) (by omega) (fun f hf => by have := HS.out f (List.mem_of_mem_take hf); omega)
        have h2 : (es.take i).length ≤ i := by rw [List.length_take]; omega
        omega
      have hline : lineT e = ta ++ [32] ++ tb ++ [32] ++ tc ++ [10] := by unfold lineT; rw [hta, htb, htc]
      have HWS : Hid (∀ wx, Keep Nb W wx → Calls Tryz.prog 113 #[.pointer (some ⟨B, 0, none⟩), .string (bstr ta ++ ⟨#[32]⟩ ++ bstr tb ++ ⟨#[32]⟩ ++ bstr tc ++ ⟨#[10]⟩)] wx fun e' w' => (∃ v, e' = .returned v) ∧ Bld w' B B (savedT n (es.take (i + 1))) ∧ Keep (WG wx B B) wx w') := Lib.hid (fun wx k => by
        have h2 : (bstr ta ++ ⟨#[32]⟩ ++ bstr tb ++ ⟨#[32]⟩ ++ bstr tc ++ ⟨#[10]⟩) = bstr (lineT e) := by
          rw [hline]
          have b1 : (⟨#[32]⟩ : ByteArray) = bstr [32] := rfl
          have b2 : (⟨#[10]⟩ : ByteArray) = bstr [10] := rfl
          rw [b1, b2, bs_app, bs_app, bs_app, bs_app, bs_app]
        have h3 : es.take (i + 1) = es.take i ++ [e] := by rw [List.take_add_one, he]; rfl
        refine (wstr_any wx B B (savedT n (es.take i)) _ ((HR.out.1.keepN kW).keepN k) (by rw [h2, bstr_size, hline]; simp; omega) (by have := kW.size; have := k.size; omega)).mono ?_
        rintro e' w' ⟨rfl, h4, h5⟩
        refine ⟨⟨_, rfl⟩, ?_, h5⟩
        rw [h2, bstr_list] at h4
        rw [h3, savedT_snoc]
        exact h4)
      have HRW := Lib.hid (And.intro (HR.out.2.1.keep kW (fun _ _ e => e)) (HR.out.2.2.trans kW))
      have p1 : ¬ 9223372036854775807 < ta.length + 1 := by omega
      have p2 : ¬ 9223372036854775807 < ta.length + 1 + tb.length := by omega
      have p3 : ¬ 9223372036854775807 < ta.length + 1 + tb.length + 1 := by omega
      have p4 : ¬ 9223372036854775807 < ta.length + 1 + tb.length + 1 + tc.length := by omega
      have p5 : ¬ 9223372036854775807 < ta.length + 1 + tb.length + 1 + tc.length + 1 := by omega
      have HGB : Hid (w3.heap.size ≤ go) := Lib.hid hFg
      clear he hrow hRX kW hta htb htc HLW hline hll hFg ha hb hc hsm
      go_upto_region 6 with (fail)
      try rw [hW]
      try rw [hX]
      clear hW hX d0 d1 d2
      refine beginZ (S := (fun w' => Keep Nb W w')) (z := 14) (by kernel_rfl) ?_ (fun hHeld => ?_)
      · exact (Keep.refl Nb W).drew
      refine yesZ (i := 0) [1, 2, 6, 11, 14] (d := some 24) (v := ?_) rfl (by kernel_rfl) (by kernel_rfl) (by kernel_rfl) (by kernel_rfl) (by kernel_rfl) (fun _ _ _ h => h) (by kernel_rfl) ?_ (by assumption) ?_
      rotate_left
      · (intro w hSw; clear hSw; go_simp; try (with_reducible rfl))
      try simp only [Act.put, List.setIfInBounds_toArray, List.set_cons_zero, List.set_cons_succ]
      refine yesZ (i := 1) [2, 6, 11, 14] (d := some 25) (v := ?_) rfl (by kernel_rfl) (by kernel_rfl) (by kernel_rfl) (by kernel_rfl) (by kernel_rfl) (fun _ _ _ h => h) (by kernel_rfl) ?_ (by assumption) ?_
      rotate_left
      · (intro w hSw; (try dsimp only at hSw); have c0' := Keep.cell (show Keep Nb W w from hSw) c0 (fun e => e); have c1' := Keep.cell (show Keep Nb W w from hSw) c1 (fun e => e); have c2' := Keep.cell (show Keep Nb W w from hSw) c2 (fun e => e); clear hSw; go_simp; try (with_reducible rfl))
      try simp only [Act.put, List.setIfInBounds_toArray, List.set_cons_zero, List.set_cons_succ]
      refine yesZ (i := 4) [5, 6, 11, 14] (d := some 28) (v := ?_) rfl (by kernel_rfl) (by kernel_rfl) (by kernel_rfl) (by kernel_rfl) (by kernel_rfl) (fun _ _ _ h => h) (by kernel_rfl) ?_ (by assumption) ?_
      rotate_left
      · (intro w hSw; clear hSw; go_simp; try (with_reducible rfl))
      try simp only [Act.put, List.setIfInBounds_toArray, List.set_cons_zero, List.set_cons_succ]
      refine yesZ (i := 5) [6, 11, 14] (d := some 29) (v := ?_) rfl (by kernel_rfl) (by kernel_rfl) (by kernel_rfl) (by kernel_rfl) (by kernel_rfl) (fun _ _ _ h => h) (by kernel_rfl) ?_ (by assumption) ?_
      rotate_left
      · (intro w hSw; (try dsimp only at hSw); have c0' := Keep.cell (show Keep Nb W w from hSw) c0 (fun e => e); have c1' := Keep.cell (show Keep Nb W w from hSw) c1 (fun e => e); have c2' := Keep.cell (show Keep Nb W w from hSw) c2 (fun e => e); clear hSw; go_simp; try (with_reducible rfl))
      try simp only [Act.put, List.setIfInBounds_toArray, List.set_cons_zero, List.set_cons_succ]
      refine yesZ (i := 9) [10, 11, 14] (d := some 33) (v := ?_) rfl (by kernel_rfl) (by kernel_rfl) (by kernel_rfl) (by kernel_rfl) (by kernel_rfl) (fun _ _ _ h => h) (by kernel_rfl) ?_ (by assumption) ?_
      rotate_left
      · (intro w hSw; clear hSw; go_simp; try (with_reducible rfl))
      try simp only [Act.put, List.setIfInBounds_toArray, List.set_cons_zero, List.set_cons_succ]
      refine yesZ (i := 10) [11, 14] (d := some 34) (v := ?_) rfl (by kernel_rfl) (by kernel_rfl) (by kernel_rfl) (by kernel_rfl) (by kernel_rfl) (fun _ _ _ h => h) (by kernel_rfl) ?_ (by assumption) ?_
      rotate_left
      · (intro w hSw; (try dsimp only at hSw); have c0' := Keep.cell (show Keep Nb W w from hSw) c0 (fun e => e); have c1' := Keep.cell (show Keep Nb W w from hSw) c1 (fun e => e); have c2' := Keep.cell (show Keep Nb W w from hSw) c2 (fun e => e); clear hSw; go_simp; try (with_reducible rfl))
      try simp only [Act.put, List.setIfInBounds_toArray, List.set_cons_zero, List.set_cons_succ]
      refine oneZ (i := 2) (by kernel_rfl) rfl (fun K hK => ?_)
      go_simp; (go_at_call 114; refine (HI1.out _ (show Keep Nb W _ from hHeld)).mono ?_; rintro e6 wB ⟨rfl, kB⟩; have kS := Keep.trans (show Keep Nb W _ from hHeld) kB; clear kB hHeld)
      refine hK.out _ _ ?_ (fun hHeld => ?_)
      · exact kS
      clear hK K
      try simp only [Act.put, List.setIfInBounds_toArray, List.set_cons_zero, List.set_cons_succ]
      refine yesZ (i := 3) [7, 8, 12, 13, 14] (d := some 27) (v := ?_) rfl (by kernel_rfl) (by kernel_rfl) (by kernel_rfl) (by kernel_rfl) (by kernel_rfl) (fun _ _ _ h => h) (by kernel_rfl) ?_ (by assumption) ?_
      rotate_left
      · (intro w hSw; clear hSw; go_simp; try (with_reducible rfl))
      try simp only [Act.put, List.setIfInBounds_toArray, List.set_cons_zero, List.set_cons_succ]
      refine oneZ (i := 6) (by kernel_rfl) rfl (fun K hK => ?_)
      go_simp; (go_at_call 114; refine (HI2.out _ (show Keep Nb W _ from hHeld)).mono ?_; rintro e6 wB ⟨rfl, kB⟩; have kS := Keep.trans (show Keep Nb W _ from hHeld) kB; clear kB hHeld)
      refine hK.out _ _ ?_ (fun hHeld => ?_)
      · exact kS
      clear hK K
      try simp only [Act.put, List.setIfInBounds_toArray, List.set_cons_zero, List.set_cons_succ]
      refine yesZ (i := 7) [8, 12, 13, 14] (d := some 31) (v := ?_) rfl (by kernel_rfl) (by kernel_rfl) (by kernel_rfl) (by kernel_rfl) (by kernel_rfl) (fun _ _ _ h => h) (by kernel_rfl) ?_ (by assumption) ?_
      rotate_left
      · (intro w hSw; clear hSw; go_simp; try (with_reducible rfl))
      try simp only [Act.put, List.setIfInBounds_toArray, List.set_cons_zero, List.set_cons_succ]
      refine yesZ (i := 8) [12, 13, 14] (d := some 32) (v := ?_) rfl (by kernel_rfl) (by kernel_rfl) (by kernel_rfl) (by kernel_rfl) (by kernel_rfl) (fun _ _ _ h => h) (by kernel_rfl) ?_ (by assumption) ?_
      rotate_left
      · (intro w hSw; clear hSw; go_simp; try (with_reducible rfl))
      try simp only [Act.put, List.setIfInBounds_toArray, List.set_cons_zero, List.set_cons_succ]
      refine oneZ (i := 11) (by kernel_rfl) rfl (fun K hK => ?_)
      go_simp; (go_at_call 114; refine (HI3.out _ (show Keep Nb W _ from hHeld)).mono ?_; rintro e6 wB ⟨rfl, kB⟩; have kS := Keep.trans (show Keep Nb W _ from hHeld) kB; clear kB hHeld)
      refine hK.out _ _ ?_ (fun hHeld => ?_)
      · exact kS
      clear hK K
      try simp only [Act.put, List.setIfInBounds_toArray, List.set_cons_zero, List.set_cons_succ]
      refine yesZ (i := 12) [13, 14] (d := some 36) (v := ?_) rfl (by kernel_rfl) (by kernel_rfl) (by kernel_rfl) (by kernel_rfl) (by kernel_rfl) (fun _ _ _ h => h) (by kernel_rfl) ?_ (by assumption) ?_
      rotate_left
      · (intro w hSw; clear hSw; go_simp; try (with_reducible rfl))
      try simp only [Act.put, List.setIfInBounds_toArray, List.set_cons_zero, List.set_cons_succ]
      refine yesZ (i := 13) [14] (d := some 37) (v := ?_) rfl (by kernel_rfl) (by kernel_rfl) (by kernel_rfl) (by kernel_rfl) (by kernel_rfl) (fun _ _ _ h => h) (by kernel_rfl) ?_ (by assumption) ?_
      rotate_left
      · (intro w hSw; clear hSw; go_simp; try (with_reducible rfl))
      try simp only [Act.put, List.setIfInBounds_toArray, List.set_cons_zero, List.set_cons_succ]
      refine lastZ (i := 14) (by kernel_rfl) rfl (by kernel_rfl) rfl (fun K hK => ?_)
      go_simp; (go_at_call 113; refine (HWS.out _ (show Keep Nb W _ from hHeld)).mono ?_; rintro e6 wC ⟨⟨v6, rfl⟩, hBC, kC⟩; have kS := (show Keep Nb W _ from hHeld))
      refine hK.out _ _ ?_
      clear hK K
      have HN : Hid (Bld wC B B (savedT n (es.take (i + 1))) ∧ Sl (fun k => w3.heap.size ≤ k) wC 42 3 (some ⟨go, 0, none⟩) m c4 (ecs es) ∧ Keep Nb w wC) := Lib.hid
        ⟨hBC, (HRW.out.1.keep kS (fun _ _ e => e)).keepW (by decide) (fun a ha => by cases ha; have h1 := HGB.out; show go ≠ B; omega) kC, (HRW.out.2.trans kS).trans' kC (fun _ _ e => e) (fun j hj e => by have h1 := HZ.out.1; have h2 := e.1; show False; omega)⟩
      clear hBC kC kS
      go_wp2_with fail
      go_roundg (m - (i + 1))
      case measure => omega
      case rel => exact ⟨i + 1, by go_num, by omega, Nat.le_refl _, HN⟩
    · obtain rfl : m = i := by omega
      have hBf := HR.out.1
      rw [← HM.out, List.take_length] at hBf
      have HBS := Lib.hid (bstring_any wr B B (savedT n es) hBf hBw)
      clear hBf
      go_wp2_with fail
      refine HBS.out.mono ?_
      rintro e1 w9 ⟨rfl, hk9⟩
      have HKF : Hid (Keep Nb w w9) := Lib.hid (HR.out.2.2.trans' hk9 (fun _ _ e => e) (fun j hj e => by have h1 := HZ.out.1; have h2 := e.1; show False; omega))
      clear hk9
      go_wp2_with fail
      go_ret
      exact ⟨rfl, HKF.out⟩
end Go.Proofs.YtkpoobnldgfapabGreatDoor

