/- isthmusref: Twice. -/
import Derived.Test.YtkpoobnldgfapabGreatDoorRThrice
set_option linter.unusedVariables false
set_option linter.unusedSimpArgs false
namespace Go.Proofs.YtkpoobnldgfapabGreatDoor
open Go.RowKit Pl

def rowsW (fs : List E) (l : List Nat) : List (Nat → Nat) := labG fs :: l.map (fun i => labG (withoutEs [i] [] fs))

theorem rowsW_snoc (fs : List E) (l : List Nat) (p : Nat) : rowsW fs (l ++ [p]) = rowsW fs l ++ [labG (withoutEs [p] [] fs)] := by simp [rowsW]
theorem rowsW_len (fs : List E) (l : List Nat) : (rowsW fs l).length = l.length + 1 := by simp [rowsW]

/-- In the midst: whose labels have been told. -/
def WsRel (w : World) (A n : Nat) (fs : List E) (done : List Nat) (wr : World) : Prop :=
  ∃ o c, Row wr A 29 [.slice o (done.length + 1 : Nat) c] ∧ LRows (fun k => w.heap.size ≤ k ∧ k ≠ A) wr n o (done.length + 1) c (rowsW fs done) ∧ Keep Nb w wr

theorem wrel_next {w W wB w9 : World} {A n g c c' cq q : Nat} {o : Option Addr} {fs : List E} {done : List Nat} {p : Nat} {rw_ : Nat → Rw} {f : Nat → List Nat}
    (hzA : w.heap.size ≤ A) (hA : Row W A 29 [.slice o (done.length + 1 : Nat) c])
    (h2 : ∀ i L, (rowsW fs done)[i]? = some L → f i = (List.range n).map L) (hM : MatR (fun k => w.heap.size ≤ k ∧ k ≠ A) W 33 3 o (done.length + 1) c rw_ f) (hk : Keep Nb w W)
    (kB : Keep Nb W wB) (hr : Sl (fun k => W.heap.size ≤ k) wB 3 1 (some ⟨q, 0, none⟩) n cq (fints n (labG (withoutEs [p] [] fs))))
    (hS : Sl (fun k => (w.heap.size ≤ k ∧ k ≠ A) ∨ k = wB.heap.size + 1) w9 33 1 (some ⟨g, 0, none⟩) (done.length + 1 + 1) c' ((List.range (done.length + 1)).map (fun i => (rw_ i).val) ++ [.slice (some ⟨q, 0, none⟩) n cq]))
    (k9 : Keep (Bl o) wB w9) (hg : o = some ⟨g, 0, none⟩ ∨ g = wB.heap.size + 1) :
    WsRel w A n fs (done ++ [p]) (w9.setCell ⟨A, 0, none⟩ (.slice (some ⟨g, 0, none⟩) (done.length + 1 + 1) c')) ∧ Row w9 A 29 [.slice o (done.length + 1 : Nat) c] ∧ Keep (fun k => k = A ∨ Bl o k) W (w9.setCell ⟨A, 0, none⟩ (.slice (some ⟨g, 0, none⟩) (done.length + 1 + 1) c')) := by
  have zk := hk.size
  have zB := kB.size
  have z9 := k9.size
  have zA := hA.lt
  have hbl : ∀ k, Bl o k → (w.heap.size ≤ k ∧ k ≠ A) ∧ k < W.heap.size := by
    rintro k ⟨x, hx, rfl⟩
    exact ⟨hM.out.foot x hx, hM.out.lt hx⟩
  have hA9 : Row w9 A 29 [.slice o (done.length + 1 : Nat) c] := (hA.keep kB (fun e => e)).keep k9 (fun e => (hbl A e).1.2 rfl)
  have hMB := hM.keep kB (fun _ _ e => e)
  have hr' : Sl (fun k => w.heap.size ≤ k ∧ k ≠ A) wB 3 1 (some ⟨q, 0, none⟩) n cq (fints n (labG (withoutEs [p] [] fs))) := hr.mono fun k hk' => by
    have hk' : W.heap.size ≤ k := hk'
    exact ⟨by omega, by omega⟩
  have hL : LRows (fun k => w.heap.size ≤ k ∧ k ≠ A) w9 n (some ⟨g, 0, none⟩) (done.length + 1 + 1) c' (rowsW fs done ++ [labG (withoutEs [p] [] fs)]) := by
    refine ⟨by rw [List.length_append, rowsW_len]; rfl, _, _, fun i L hi => ?_, hMB.push (l := (List.range n).map (labG (withoutEs [p] [] fs))) (by simp) hr' (fun a ha hb => ?_) hS k9 hg ⟨by omega, by omega⟩⟩
    · by_cases e : i = done.length + 1
      · subst e
        simp only [if_pos rfl]
        rw [List.getElem?_append_right (by rw [rowsW_len]; omega), rowsW_len, Nat.sub_self] at hi
        simp at hi; rw [hi]; simp
      · simp only [if_neg e]
        have hlt : i < done.length + 1 := by
          have := (List.getElem?_eq_some_iff.1 hi).1
          rw [List.length_append, rowsW_len] at this
          simp at this; omega
        rw [List.getElem?_append_left (by rw [rowsW_len]; omega)] at hi
        exact h2 i L hi
    · have h1 := (hbl _ hb).2
      have h2 : W.heap.size ≤ a.block := hr.foot a ha
      omega
  have kS : Keep (fun k => k = A) w9 (w9.setCell ⟨A, 0, none⟩ (.slice (some ⟨g, 0, none⟩) (done.length + 1 + 1) c')) := Keep.setCell (p := ⟨A, 0, none⟩) (Keep.refl (fun k => k = A) w9) (.inl rfl) _
  refine ⟨⟨some ⟨g, 0, none⟩, c', ?_, ?_, ?_⟩, hA9, ?_⟩
  · have := hA9.set (i := 0) (by simp) (.slice (some ⟨g, 0, none⟩) (done.length + 1 + 1) c')
    simpa using this
  · rw [rowsW_snoc]
    have := hL.keep kS (fun k h e => h.2 e)
    simpa using this
  · refine ((hk.trans kB).trans' k9 (fun _ _ e => e) (fun k hk' e => ?_)).trans' kS (fun _ _ e => e) (fun k hk' e => ?_)
    · have := (hbl k e).1.1; show False; omega
    · have h1 : k < w.heap.size := hk'
      have h2 : k = A := e
      show False; omega
  · exact (kB.trans' k9 (fun _ _ e => e.elim) (fun k _ e => .inr e)).trans' kS (fun _ _ e => e) (fun k _ e => .inl e)

/-- Held together without any one edge. -/
def Tw (es : List E) (x y : Nat) : Prop := Conn (ends es) x y ∧ ∀ e, e ∈ es → Conn (ends (sans es [e.id])) x y

theorem Tw.refl (es : List E) (x : Nat) : Tw es x x := ⟨Conn.refl _ _, fun _ _ => Conn.refl _ _⟩
theorem Tw.symm {es : List E} {x y : Nat} (h : Tw es x y) : Tw es y x := ⟨h.1.symm, fun e he => (h.2 e he).symm⟩
theorem Tw.trans {es : List E} {x y z : Nat} (h : Tw es x y) (g : Tw es y z) : Tw es x z := ⟨h.1.trans g.1, fun e he => (h.2 e he).trans (g.2 e he)⟩

def RTwPost (w : World) (n : Nat) (fs : List E) (e : Ending) (w' : World) : Prop :=
  ∃ L : Nat → Nat, Canon n L ∧ (∀ x y, x < n → y < n → (L x = L y ↔ Tw fs x y)) ∧ QPartsPost w n L e w'

set_option maxRecDepth 100000 in
set_option maxHeartbeats 2000000 in
theorem rtwice_any (F : Nat → Prop) (w : World) (g n : Nat) (fs : List E) (hG : RGr F w g n fs) (hn : n ≤ 40) (hl : fs.length ≤ 120) (ho : Over n fs) :
    Calls Tryz.prog 34 #[.pointer (some ⟨g, 0, none⟩)] w (RTwPost w n fs) := by
  have HG := Lib.hid hG
  have HO := Lib.hid ho
  have hL := rlabels_any F w g n fs hG hn (by omega) ho
  have HL := Lib.hid hL
  clear hG ho hL
  go_enter Tryz.func34, Tryz.ntmps34
  go_wp2_with fail
  refine HL.out.mono ?_
  rintro e1 w1 ⟨q, rfl, hs1, hk1⟩
  have HS1 := Lib.hid hs1
  have HK1 := Lib.hid hk1
  clear hs1 hk1 HL
  go_upto_region 2 with (fail)
  obtain ⟨A, hA⟩ : ∃ A, w1.heap.size + 1 = A := ⟨_, rfl⟩
  obtain ⟨wa, hwa⟩ : ∃ wa, w1.alloc (.cells #[.slice (some ⟨q, 0, none⟩) n n] 33) = wa := ⟨_, rfl⟩
  obtain ⟨w2, hw2⟩ : ∃ w2, wa.alloc (.cells #[.slice (some ⟨w1.heap.size, 0, none⟩) 1 1] 29) = w2 := ⟨_, rfl⟩
  have hzA : w.heap.size ≤ A := by have := HK1.out.size; omega
  have hT0 : WsRel w A n fs ((fs.take 0).map (·.id)) w2 := by
    have zk := HK1.out.size
    have hwa1 : wa.heap.size = A := by rw [← hwa, ← hA]; simp
    have k1 : Keep Nb w1 wa := by rw [← hwa]; exact (Keep.refl Nb w1).alloc _
    have k2 : Keep Nb wa w2 := by rw [← hw2]; exact (Keep.refl Nb wa).alloc _
    have hlr : LRows (fun k => w.heap.size ≤ k ∧ k < A) wa n (some ⟨w1.heap.size, 0, none⟩) 1 1 [labG fs] := by
      rw [← hwa]
      exact LRows.one w1 (HS1.out.tight.mono (fun k hk => ⟨hk.1, by omega⟩)) ⟨zk, by omega⟩
    refine ⟨some ⟨w1.heap.size, 0, none⟩, 1, ?_, (hlr.keep k2 (fun _ _ e => e)).mono (fun k hk => ⟨hk.1, by omega⟩), (HK1.out.trans k1).trans k2⟩
    rw [← hw2, ← hwa1]
    exact Row.new wa #[.slice (some ⟨w1.heap.size, 0, none⟩) 1 1] 29
  have HT0 := Lib.hid hT0
  obtain ⟨og, cg, hM⟩ := HG.out
  have HMG := Lib.hid hM
  have g1 := (hM.keep hT0.choose_spec.choose_spec.2.2 (fun _ _ e => e)).head.cell (i := 1) rfl
  obtain ⟨m, hm⟩ : ∃ m, fs.length = m := ⟨_, rfl⟩
  have hm120 : m ≤ 120 := by omega
  have HM : Hid (fs.length = m) := Lib.hid hm
  rw [hm] at g1
  rw [hwa, hw2, hA]
  clear hwa hw2 hA hT0 hM hm
  go_wp2_with fail
  clear g1
  go_loopg [14] m (fun kx s14 wr => ∃ (i : Nat), s14 = .int .i64 i ∧ i ≤ m ∧ m - i ≤ kx ∧ Hid (WsRel w A n fs ((fs.take i).map (·.id)) wr))
  case atStart => exact ⟨0, rfl, Nat.zero_le _, by omega, HT0⟩
  case round =>
    obtain ⟨i, rfl, hi, hg, HR⟩ := hrel
    clear HT0
    by_cases hlt : i < m
    · have hltf : i < fs.length := by rw [HM.out]; exact hlt
      obtain ⟨e, hy⟩ : ∃ e, fs[i]? = some e := ⟨_, List.getElem?_eq_getElem hltf⟩
      obtain ⟨o, c, hRA, hLR, hkr⟩ := HR.out
      obtain ⟨dn, hdn⟩ : ∃ dn, (fs.take i).map (·.id) = dn := ⟨_, rfl⟩
      rw [hdn] at hRA hLR
      have HDN : Hid ((fs.take (i + 1)).map (·.id) = dn ++ [e.id]) := Lib.hid (by rw [List.take_add_one, hy, ← hdn]; simp)
      have hdl : dn.length = i := by rw [← hdn, List.length_map, List.length_take]; omega
      have hMr := HMG.out.keep hkr (fun _ _ e => e)
      have hSr := hMr.s
      rw [HM.out] at hSr
      obtain ⟨ge, rfl, hFg, hnc, hrow⟩ := hSr.pos (by omega)
      have d1 := hrow.edges.id _ _ hy
      have d2 := hrow.edges.a _ _ hy
      have d3 := hrow.edges.b _ _ hy
      obtain ⟨X, hX⟩ : ∃ X, wr.heap.size = X := ⟨_, rfl⟩
      obtain ⟨W, hW⟩ : ∃ W, wr.alloc (.cells #[.int .i64 e.id, .int .i64 e.a, .int .i64 e.b] 42) = W := ⟨_, rfl⟩
      have kW : Keep Nb wr W := by rw [← hW]; exact (Keep.refl Nb wr).alloc _
      have f3 : W.cell? ⟨X, 0, none⟩ = some (.int .i64 e.id) := by rw [← hW, ← hX, World.cell?_alloc_at _ _ _ _ rfl]; rfl
      have hRW := hRA.keep kW (fun e => e)
      have a0 := hRW.cell (i := 0) rfl
      have hAz := hRA.lt
      have hXA : X ≠ A := by omega
      obtain ⟨hl1, rw_, ff, hl2, hMM⟩ := (hLR.keep kW (fun _ _ e => e))
      have HBL : Hid (∀ x, Bl o x → x ≠ X) := Lib.hid (by
        rintro x ⟨a, ha, rfl⟩
        obtain ⟨_, _, _, _, h5⟩ := hLR
        have h6 := h5.out.lt ha
        omega)
      have HMM := Lib.hid hMM
      have HL2 := Lib.hid hl2
      have HRW := Lib.hid hRW
      have HKW := Lib.hid (hkr.trans kW)
      have HFF : Hid (W.cell? ⟨X, 0, none⟩ = some (.int .i64 e.id)) := Lib.hid f3
      obtain ⟨ls, hls⟩ : ∃ ls, withoutEs [e.id] [] fs = ls := ⟨_, rfl⟩
      have hlo : Over n ls := fun x hx => HO.out x (by rw [← hls] at hx; exact (List.mem_filter.1 hx).1)
      have hll : ls.length ≤ 1000 := by rw [← hls]; exact Nat.le_trans (List.length_filter_le _ _) (by omega)
      have HLS := Lib.hid hls
      have hgW : RGr F W g n fs := HG.out.keep HKW.out (fun _ _ e => e)
      have HW : Hid (Calls Tryz.prog 79 #[.pointer (some ⟨g, 0, none⟩), .slice (some ⟨W.heap.size, 0, none⟩) 1 1, .slice none 0 0] (W.alloc (.cells #[.int .i64 (e.id : Nat)] 3)).drew fun e w' => ∃ rb, e = .returned (.pointer (some ⟨rb, 0, none⟩)) ∧ RGr (fun k => W.heap.size ≤ k) w' rb n ls ∧ Keep Nb W w') := Lib.hid (by
        have kA : Keep Nb W (W.alloc (.cells #[.int .i64 (e.id : Nat)] 3)).drew := ((Keep.refl Nb W).alloc _).drew
        have hS : Sl (fun k => k = W.heap.size) (W.alloc (.cells #[.int .i64 (e.id : Nat)] 3)).drew 3 1 (some ⟨W.heap.size, 0, none⟩) 1 1 (ints [e.id]) :=
          (Sl.built W 3 1 1 [.int .i64 (e.id : Nat)] rfl (by simp only [maxLen]; omega)).keep ((Keep.refl Nb _).drew) (fun _ _ e => e)
        refine (rwithout_any F (fun k => k = W.heap.size) (fun _ => False) _ g n fs (some ⟨W.heap.size, 0, none⟩) none 1 0 [e.id] [] (hgW.keep kA (fun _ _ e => e)) (by omega) hS (Sl.nil _ _ _ _) (by simp) (by simp)).mono ?_
        rintro e w' ⟨rfl, h2, h3⟩
        rw [hls] at h2
        exact ⟨_, rfl, h2.mono (fun j hj => by have := kA.size; omega), kA.trans h3⟩)
      have HL : Hid (∀ wx rb, RGr (fun k => W.heap.size ≤ k) wx rb n ls → Calls Tryz.prog 78 #[.pointer (some ⟨rb, 0, none⟩)] wx (RLabelsPost wx n ls)) := Lib.hid (fun wx rb h => rlabels_any _ wx rb n ls h hn hll hlo)
      have hAW : (W.alloc (.cells #[.int .i64 (e.id : Nat)] 3)).drew.cell? ⟨A, 0, none⟩ = some (.slice o (dn.length + 1) c) := (hRW.keep (((Keep.refl Nb W).alloc _).drew) (fun e => e)).cell (i := 0) rfl
      have hdl120 : dn.length ≤ 120 := by omega
      clear hRA hLR hkr hMr hSr hrow hy kW hRW hl1 hl2 hMM hls hlo hll hgW HR hdn hdl
      go_upto_region 5 with (fail)
      clear hX hW d1 d2 d3
      go_region_law ((first
        | (go_simp; go_at_call 79; refine HW.out.mono ?_; rintro e1 wA ⟨rb, rfl, hA, kA⟩; have a3 := kA.cell (p := ⟨X, 0, none⟩) HFF.out (fun e => e); have aA := (HRW.out.keep kA (fun e => e)).cell (i := 0) rfl; have HA := Lib.hid hA; have KA := Lib.hid kA; clear hA kA; try dsimp only)
        | (go_simp; go_at_call 78; refine (HL.out _ _ (HA.out.keep (show Keep Nb wA _ from (by (repeat (first | exact Keep.refl _ _ | refine Keep.alloc ?_ _ | refine Keep.drew ?_)))) (fun _ _ e => e))).mono ?_; rintro e2 wB ⟨qb, rfl, hB, kB⟩; have kB' := KA.out.trans (Keep.trans (show Keep Nb wA _ from (by (repeat (first | exact Keep.refl _ _ | refine Keep.alloc ?_ _ | refine Keep.drew ?_)))) kB); have b3 := kB'.cell (p := ⟨X, 0, none⟩) HFF.out (fun e => e); have bA := (HRW.out.keep kB' (fun e => e)).cell (i := 0) rfl; have bA2 := (HRW.out.keep (kB'.alloc (.cells #[.slice (some ⟨qb, 0, none⟩) n n] 33)) (fun e => e)).cell (i := 0) rfl; have HB := Lib.hid (hB.mono (G := fun k => W.heap.size ≤ k) (fun x hx => by have h0 := KA.out.size; have h1 : wA.heap.size ≤ x := hx; omega)); have KB := Lib.hid kB'; clear hB kB kB'; try dsimp only)
        | (obtain ⟨gq, cq, w9, r1, r2, r3, r4⟩ := run_app1 (P := Tryz.prog) 29 29 33 (by kernel_rfl) elem_ints (by rfl) (HMM.out.keep KB.out (fun _ _ e => e)).out (.slice (some ⟨qb, 0, none⟩) n n) rfl (by omega) (by omega); refine step_app_run rfl _ _ 29 29 rfl (.slice o (dn.length + 1) c) (.slice (some ⟨wB.heap.size, 0, none⟩) 1 1) (by simp [Act.eval, Act.put]) (by simp [Act.eval, Act.put]) r1 ?_; obtain ⟨hN1, hN2, hN3⟩ := wrel_next hzA HRW.out HL2.out HMM.out HKW.out KB.out (by rw [HLS.out]; exact HB.out) r2 r3 r4; have c3 := r3.cell b3 (fun h => HBL.out _ h rfl); have c9 := hN2.cell (i := 0) rfl; have c8 := fun s => hN2.frozen 0 s; have HN := Lib.hid hN1; clear r1 r2 r3 r4 hN1 hN2 hN3)
        | (fail "none")))
      all_goals
        go_wp2_with fail
        go_roundg (m - (i + 1))
        case measure => omega
        case rel => exact ⟨i + 1, by go_num, by omega, Nat.le_refl _, by rw [HDN.out]; exact HN⟩
    · as_aux_lemma =>
      obtain rfl : i = m := by omega
      obtain ⟨L, hC, hLR⟩ := eqv_canon n (R := fun x y => Tw fs x y) (fun x => Tw.refl fs x) (fun _ _ h => h.symm) (fun _ _ _ h g => h.trans g)
      obtain ⟨o, c, hRA, hLRw, hkr⟩ := HR.out
      rw [List.take_of_length_le (by rw [HM.out]; exact Nat.le_refl _)] at hRA hLRw
      obtain ⟨dn, hdn⟩ : ∃ dn, fs.map (·.id) = dn := ⟨_, rfl⟩
      rw [hdn] at hRA hLRw
      have hdl : dn.length ≤ 120 := by rw [← hdn, List.length_map]; omega
      have hf : ∀ W, Keep Nb wr W → ∀ a b : Nat, a < n → b < n → Calls Tryz.prog 101 #[.int .i64 a, .int .i64 b, .pointer (some ⟨A, 0, none⟩)] W fun e w' => e = .returned (.bool (decide (L a = L b))) ∧ Keep Nb W w' := fun W k a b ha hb => by
        have h1 := rtwice1_any _ W A n (dn.length + 1) c a b o (rowsW fs dn) ((hRA.keep k (fun e => e)).cell (i := 0) rfl) (hLRw.keep k (fun _ _ e => e)) (by omega) ha hb hn
        have h2 : (∀ f, f ∈ rowsW fs dn → f a = f b) ↔ L a = L b := by
          rw [hLR a b ha hb]
          unfold rowsW
          constructor
          · intro h
            refine ⟨(show Conn (ends fs) a b from h (labG fs) (by simp)), fun p hp => ?_⟩
            exact (conn_less (List.Perm.refl _) [p.id]).1 (h _ (List.mem_cons_of_mem _ (List.mem_map.2 ⟨p.id, by rw [← hdn]; exact List.mem_map.2 ⟨p, hp, rfl⟩, rfl⟩)))
          · rintro ⟨h1, h2⟩ f hf
            rcases List.mem_cons.1 hf with rfl | hf
            · exact h1
            · obtain ⟨p, hp, rfl⟩ := List.mem_map.1 hf
              rw [← hdn] at hp
              obtain ⟨q, hq, rfl⟩ := List.mem_map.1 hp
              exact (conn_less (List.Perm.refl _) [q.id]).2 (h2 q hq)
        rw [decide_eq_decide.2 h2] at h1
        exact h1
      have HQ := Lib.hid (rparts_twice wr n L (.pointer (some ⟨A, 0, none⟩)) hn hC hf)
      have g0 := (HMG.out.keep hkr (fun _ _ e => e)).head.cell (i := 0) rfl
      have HKR := Lib.hid hkr
      have HLL := Lib.hid (And.intro hC hLR)
      clear hRA hLRw hkr hdn hdl hf hC hLR HR
      go_wp2_with fail
      refine HQ.out.mono ?_
      rintro e1 wz ⟨o, m, c, rows, rfl, hMz, hkz⟩
      have HF : Hid (RTwPost w n fs (.returned (.slice o m c)) wz) := Lib.hid ⟨L, HLL.out.1, HLL.out.2, o, m, c, rows, rfl, hMz.mono (fun k hk => ⟨Nat.le_trans HKR.out.size hk.1, hk.2⟩), HKR.out.trans hkz⟩
      clear hMz hkz
      go_wp2_with fail
      go_ret
      exact HF.out

end Go.Proofs.YtkpoobnldgfapabGreatDoor
