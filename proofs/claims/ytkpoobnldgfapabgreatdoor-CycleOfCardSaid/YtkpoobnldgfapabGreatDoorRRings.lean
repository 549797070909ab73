/- isthmusref: Rings. -/
import Derived.Test.YtkpoobnldgfapabGreatDoorRTwos
import Derived.Test.YtkpoobnldgfapabGreatDoorRBr
import Derived.Test.YtkpoobnldgfapabGreatDoorC1
import Derived.Test.YtkpoobnldgfapabGreatDoorPlRings
set_option linter.unusedVariables false
set_option linter.unusedSimpArgs false
namespace Go.Proofs.YtkpoobnldgfapabGreatDoor
open Go.RowKit Pl

/-- Rows of numbers, one behind the other. -/
def NRows (F : Nat → Prop) (w : World) (o : Option Addr) (m c : Nat) (ll : List (List Nat)) : Prop :=
  ll.length = m ∧ ∃ rw_ f, (∀ i l, ll[i]? = some l → f i = l) ∧ MatR F w 33 3 o m c rw_ f

theorem NRows.nil (F : Nat → Prop) (w : World) : NRows F w none 0 0 [] := ⟨rfl, fun _ => ⟨none, 0, 0⟩, fun _ => [], fun _ _ h => by simp at h, MatR.nil _ _ _ _ _ _⟩
theorem NRows.keep {F G : Nat → Prop} {w w' : World} {o : Option Addr} {m c : Nat} {ll : List (List Nat)} (h : NRows F w o m c ll) (k : Keep G w w') (d : ∀ k, F k → ¬ G k) : NRows F w' o m c ll := by
  obtain ⟨h1, a, b, h2, h3⟩ := h
  exact ⟨h1, a, b, h2, h3.keep k d⟩
theorem NRows.mono {F G : Nat → Prop} {w : World} {o : Option Addr} {m c : Nat} {ll : List (List Nat)} (h : NRows F w o m c ll) (d : ∀ k, F k → G k) : NRows G w o m c ll := by
  obtain ⟨h1, a, b, h2, h3⟩ := h
  exact ⟨h1, a, b, h2, h3.mono d⟩
theorem NRows.tight {F : Nat → Prop} {w : World} {o : Option Addr} {m c : Nat} {ll : List (List Nat)} (h : NRows F w o m c ll) : NRows (fun k => F k ∧ k < w.heap.size) w o m c ll := by
  obtain ⟨h1, a, b, h2, h3⟩ := h
  exact ⟨h1, a, b, h2, h3.tight⟩

/-- One row's header, and the row. -/
theorem NRows.at {F : Nat → Prop} {w : World} {o : Option Addr} {m c : Nat} {ll : List (List Nat)} (h : NRows F w o m c ll) {i : Nat} {l : List Nat} (hL : ll[i]? = some l) :
    ∃ (go : Nat) (oq : Option Addr) (cq : Nat), o = some ⟨go, 0, none⟩ ∧ m ≤ c ∧ w.cell? ⟨go, i, none⟩ = some (.slice oq l.length cq) ∧ Sl F w 3 1 oq l.length cq (ints l) := by
  obtain ⟨h1, a, b, h2, h3⟩ := h
  have hi : i < m := by rw [← h1]; exact (List.getElem?_eq_some_iff.1 hL).1
  obtain ⟨go, q1, q2, _, q3⟩ := h3.cell hi
  have hr := h3.row i hi
  rw [h2 i l hL] at q3 hr
  exact ⟨go, _, _, q1, q2, q3, hr⟩

/-- One row more, appended. -/
theorem NRows.app {F : Nat → Prop} {w : World} {m c cq : Nat} {o oq : Option Addr} {ll : List (List Nat)} {l : List Nat} (h : NRows F w o m c ll) (hm : m ≤ 100000) (hr : Sl F w 3 1 oq l.length cq (ints l)) (hne : ∀ a, oq = some a → ¬ Bl o a.block) (hF : F (w.heap.size + 1)) :
    ∃ g c' w', (Builtin.append_ #[29, 29] 29 #[.slice o m c, .slice (some ⟨w.heap.size, 0, none⟩) 1 1]).run Tryz.prog (w.alloc (.cells #[.slice oq l.length cq] 33)) = .ok (.slice (some ⟨g, 0, none⟩) (m + 1) c') w' ∧
      NRows F w' (some ⟨g, 0, none⟩) (m + 1) c' (ll ++ [l]) ∧ Keep (Bl o) w w' := by
  obtain ⟨h1, a, b, h2, h3⟩ := h
  obtain ⟨g, c', w', r1, r2, r3, r4⟩ := run_app1 (P := Tryz.prog) 29 29 33 (by kernel_rfl) elem_ints (by rfl) h3.out (.slice oq l.length cq) rfl (by omega) (by omega)
  refine ⟨g, c', w', r1, ⟨by rw [List.length_append, h1]; rfl, _, _, fun i l' hi => ?_, h3.push (l := l) rfl hr hne r2 r3 r4 hF⟩, r3⟩
  by_cases e : i = m
  · subst e
    simp only [if_pos rfl]
    rw [List.getElem?_append_right (by omega), h1, Nat.sub_self] at hi
    simp at hi; rw [hi]; simp
  · simp only [if_neg e]
    have hlt : i < m := by
      have := (List.getElem?_eq_some_iff.1 hi).1
      rw [List.length_append, h1] at this
      simp at this; omega
    rw [List.getElem?_append_left (by omega)] at hi
    exact h2 i l' hi

/-- One more into the first of both. -/
theorem TwoE.pushF {F : Nat → Prop} {w : World} {tr rs : List E} {ot oo : Option Addr} {ct co : Nat} (h : TwoE F w tr rs ot oo ct co) (hF : F (w.heap.size + 1)) (hl : tr.length < 1000) (e : E) :
    ∃ g c' w', (Builtin.append_ #[38, 38] 38 #[.slice ot tr.length ct, .slice (some ⟨w.heap.size, 0, none⟩) 1 1]).run Tryz.prog (w.alloc (.cells #[.int .i64 e.id, .int .i64 e.a, .int .i64 e.b] 42)) = .ok (.slice (some ⟨g, 0, none⟩) (tr.length + 1) c') w' ∧
      TwoE F w' (tr ++ [e]) rs (some ⟨g, 0, none⟩) oo c' co ∧ Keep (Bl ot) w w' := by
  obtain ⟨g, c', w', r1, r2, r3, r4⟩ := run_appN (P := Tryz.prog) 38 38 42 und_edges elem_edge (by rfl) (by omega) h.t (ecells e) 1 (by intro u hu; simp [ecells] at hu; rcases hu with rfl | rfl | rfl <;> rfl) rfl (by omega) (by omega) (by omega)
  refine ⟨g, c', w', r1, ⟨?_, ?_, ?_⟩, r3⟩
  · rw [List.length_append, ecs_snoc']
    exact r2.mono (fun k hk => by
      rcases hk with hk | hk
      · exact hk
      · exact hk ▸ hF)
  · exact h.r.of_block fun a ha => r3.block _ (h.r.lt ha) (fun hb => h.d _ hb ⟨a, ha, rfl⟩)
  · rintro k ⟨a, ha, rfl⟩ hk
    cases ha
    rcases r4 with r4 | r4
    · exact h.d _ ⟨_, r4, rfl⟩ hk
    · obtain ⟨b, hb, hbk⟩ := hk
      have := h.r.lt hb
      have hbk' : b.block = g := hbk
      omega

/-- In the midst of the first loop: the tree's graph, and the rest. -/
structure TrRel (w1 : World) (T n : Nat) (tr rs : List E) (ot oo : Option Addr) (ct co : Nat) (wr : World) : Prop where
  lt : T < w1.heap.size
  head : Row wr T 56 [.int .i64 (n : Nat), .slice ot tr.length ct]
  two : TwoE (fun k => w1.heap.size ≤ k) wr tr rs ot oo ct co
  keep : Keep (fun k => k = T) w1 wr

theorem TrRel.ne {w1 wr : World} {T n : Nat} {tr rs : List E} {ot oo : Option Addr} {ct co : Nat} (h : TrRel w1 T n tr rs ot oo ct co wr) (a : Addr) (ha : ot = some a ∨ oo = some a) : a.block ≠ T := by
  have := h.lt
  rcases ha with ha | ha
  · have h1 : w1.heap.size ≤ a.block := h.two.t.foot a ha
    omega
  · have h1 : w1.heap.size ≤ a.block := h.two.r.foot a ha
    omega

theorem TrRel.gr {w1 wr : World} {T n : Nat} {tr rs : List E} {ot oo : Option Addr} {ct co : Nat} (h : TrRel w1 T n tr rs ot oo ct co wr) : RGrMem (fun k => k = T ∨ w1.heap.size ≤ k) wr T n tr ot ct :=
  ⟨h.head, .inl rfl, h.two.t.mono (fun _ h => .inr h), fun a ha => h.ne a (.inl ha)⟩

theorem TrRel.next {w1 wr w' : World} {T n : Nat} {tr rs : List E} {ot oo : Option Addr} {ct co : Nat} (h : TrRel w1 T n tr rs ot oo ct co wr) (k : Keep Nb wr w') : TrRel w1 T n tr rs ot oo ct co w' :=
  ⟨h.lt, h.head.keep k (fun e => e), h.two.keep k (fun _ _ e => e), h.keep.trans k.of_nb⟩

/-- One more for the rest. -/
theorem TrRel.rest {w1 wr w' : World} {T n : Nat} {tr rs rs' : List E} {ot oo oo' : Option Addr} {ct co co' : Nat} (h : TrRel w1 T n tr rs ot oo ct co wr) (h2 : TwoE (fun k => w1.heap.size ≤ k) w' rs' tr oo' ot co' ct) (k : Keep (Bl oo) wr w') : TrRel w1 T n tr rs' ot oo' ct co' w' :=
  ⟨h.lt, h.head.keep k (fun e => by obtain ⟨a, ha, hb⟩ := e; exact h.ne a (.inr ha) hb), h2.swap, h.keep.trans' k (fun _ _ e => e) (fun x hx e => by
    obtain ⟨a, ha, hb⟩ := e
    have h1 : w1.heap.size ≤ a.block := h.two.r.foot a ha
    have hb : a.block = x := hb
    omega)⟩

/-- One more for the tree. -/
theorem TrRel.tree {w1 wr w' : World} {T n g : Nat} {tr rs tr' : List E} {ot oo : Option Addr} {ct co c' : Nat} (h : TrRel w1 T n tr rs ot oo ct co wr) (h2 : TwoE (fun k => w1.heap.size ≤ k) w' tr' rs (some ⟨g, 0, none⟩) oo c' co) (k : Keep (Bl ot) wr w') :
    TrRel w1 T n tr' rs (some ⟨g, 0, none⟩) oo c' co (w'.setCell ⟨T, 1, none⟩ (.slice (some ⟨g, 0, none⟩) tr'.length c')) ∧ Row w' T 56 [.int .i64 (n : Nat), .slice ot tr.length ct] := by
  have hh : Row w' T 56 [.int .i64 (n : Nat), .slice ot tr.length ct] := h.head.keep k (fun e => by obtain ⟨a, ha, hb⟩ := e; exact h.ne a (.inl ha) hb)
  have kS : Keep (fun k => k = T) w' (w'.setCell ⟨T, 1, none⟩ (.slice (some ⟨g, 0, none⟩) tr'.length c')) := Keep.setCell (p := ⟨T, 1, none⟩) (Keep.refl (fun k => k = T) w') (.inl rfl) _
  have hlt := h.lt
  refine ⟨⟨h.lt, by simpa using hh.set (i := 1) (by simp) (.slice (some ⟨g, 0, none⟩) tr'.length c'), h2.keep kS (fun k hk e => by have hk : w1.heap.size ≤ k := hk; have e : k = T := e; omega), (h.keep.trans' k (fun _ _ e => e) (fun x hx e => ?_)).trans kS⟩, hh⟩
  obtain ⟨a, ha, hb⟩ := e
  have h1 : w1.heap.size ≤ a.block := h.two.t.foot a ha
  have hb : a.block = x := hb
  omega

def RRingsPost (w : World) (es : List E) (e : Ending) (w' : World) : Prop :=
  ∃ o c, e = .returned (.slice o (rsE es).length c) ∧ NRows (fun k => w.heap.size ≤ k) w' o (rsE es).length c ((rsE es).map (ringOf (trE es))) ∧ Keep Nb w w'

set_option maxRecDepth 100000 in
set_option maxHeartbeats 2000000 in
theorem rrings_any (F : Nat → Prop) (w : World) (g n : Nat) (es fs : List E) (hG : RGr F w g n fs) (hn : n ≤ 40) (hl : fs.length ≤ 120) (hs : Sorted es) (hp : es.Perm fs) (ho : Over n fs) :
    Calls Tryz.prog 13 #[.pointer (some ⟨g, 0, none⟩)] w (RRingsPost w es) := by
  obtain ⟨og, cg, hM⟩ := hG
  have g0 := hM.head.cell (i := 0) rfl
  have hG : RGr F w g n fs := ⟨og, cg, hM⟩
  have HG := Lib.hid hG
  have HS := Lib.hid hs
  have HP := Lib.hid hp
  have HO := Lib.hid ho
  obtain ⟨T, hT⟩ : ∃ T, w.heap.size = T := ⟨_, rfl⟩
  obtain ⟨wt, hwt⟩ : ∃ wt, w.alloc (.cells #[.int .i64 (n : Nat), .slice none 0 0] 56) = wt := ⟨_, rfl⟩
  have hRT : Row wt T 56 [.int .i64 (n : Nat), .slice none 0 0] := by
    rw [← hwt, ← hT]; exact Row.new w #[.int .i64 (n : Nat), .slice none 0 0] 56
  have hKT : Keep Nb w wt := by rw [← hwt]; exact (Keep.refl Nb w).alloc _
  have hzT : w.heap.size ≤ T := by omega
  have HRT := Lib.hid hRT
  have HKT := Lib.hid hKT
  have HRS := Lib.hid (rsorted_any F wt g n fs (hG.keep hKT (fun _ _ e => e)) (by omega))
  clear hM hG hs hp ho hRT hKT
  go_enter Tryz.func13, Tryz.ntmps13
  go_upto_region 4 with (fail)
  clear hwt hT g0
  go_wp2_with fail
  refine HRS.out.mono ?_
  rintro e w1 ⟨ds, o1, c1, rfl, hp1, hs1, hS1, hk1⟩
  have hds := sorted_of HS.out HP.out hp1 hs1
  subst hds
  obtain ⟨m, hm⟩ : ∃ m, fs.length = m := ⟨_, rfl⟩
  rw [hm] at hS1 ⊢
  have hm120 : m ≤ 120 := by omega
  have HM : Hid (ds.length = m) := Lib.hid (by rw [HP.out.length_eq]; exact hm)
  have HS1 := Lib.hid hS1.tight
  have HK1 := Lib.hid hk1
  have zt := HRT.out.lt
  have HT1 : Hid (TrRel w1 T n [] [] none none 0 0 w1) := Lib.hid ⟨by have := hk1.size; omega, HRT.out.keep hk1 (fun e => e), ⟨Sl.nil _ _ _ _, Sl.nil _ _ _ _, fun _ h => by obtain ⟨a, ha, _⟩ := h; cases ha⟩, Keep.refl _ _⟩
  have HK0 : Hid (Keep Nb w w1) := Lib.hid (HKT.out.trans hk1)
  have z1 := hk1.size
  have hTw1 : T < w1.heap.size := HT1.out.lt
  clear hp1 hs1 hS1 hk1 hm HRS
  go_wp2_with fail
  go_loopg [5, 24] m (fun kx s5 s24 wr => ∃ (i : Nat) (tr rs : List E) (ot oo : Option Addr) (ct co : Nat), s5 = .slice oo rs.length co ∧ s24 = .int .i64 i ∧ i ≤ m ∧ m - i ≤ kx ∧ tr.length ≤ i ∧ rs.length ≤ i ∧
    Hid (treesOf (ds.take i) = (tr, rs)) ∧ Hid (TrRel w1 T n tr rs ot oo ct co wr))
  case atStart => exact ⟨0, [], [], none, none, 0, 0, rfl, rfl, Nat.zero_le _, by omega, by simp, by simp, Lib.hid rfl, HT1⟩
  case round =>
    obtain ⟨i, tr, rs, ot, oo, ct, co, rfl, rfl, hi, hg, htl, hrl, HTS, HR⟩ := hrel
    by_cases hlt : i < m
    · as_aux_lemma =>
      obtain ⟨e, hy⟩ : ∃ e, ds[i]? = some e := ⟨_, List.getElem?_eq_getElem (by rw [HM.out]; exact hlt)⟩
      have hS := HS1.out.keep HR.out.keep (fun k h h' => by have := h.1; have h' : k = T := h'; omega)
      obtain ⟨ge, rfl, hFg, hnc, hrow⟩ := hS.pos (by omega)
      have d1 := hrow.edges.id _ _ hy
      have d2 := hrow.edges.a _ _ hy
      have d3 := hrow.edges.b _ _ hy
      have hem := List.mem_of_getElem? hy
      have hoe := HO.out e (HP.out.mem_iff.1 hem)
      have HNX : Hid (treesOf (ds.take (i + 1)) = treeStep (tr, rs) e) := Lib.hid (by rw [treesOf_take hy, HTS.out])
      obtain ⟨X, hX⟩ : ∃ X, wr.heap.size = X := ⟨_, rfl⟩
      obtain ⟨wx, hwx⟩ : ∃ wx, wr.alloc (.cells #[.int .i64 e.id, .int .i64 e.a, .int .i64 e.b] 42) = wx := ⟨_, rfl⟩
      have hkx : Keep Nb wr wx := by rw [← hwx]; exact (Keep.refl Nb wr).alloc _
      have hrX : Row wx X 42 (ecells e) := by rw [← hwx, ← hX]; exact Row.new wr #[.int .i64 e.id, .int .i64 e.a, .int .i64 e.b] 42
      have HRX := Lib.hid hrX
      have htt : (treesOf (ds.take i)).1 = tr := by rw [HTS.out]
      have hsub : ∀ x, x ∈ tr → x ∈ ds := fun x hx => by
        rw [← htt] at hx
        exact List.mem_of_mem_take ((trees_take HS.out i).subT.subset hx)
      have HL : Hid (Calls Tryz.prog 78 #[.pointer (some ⟨T, 0, none⟩)] wx (RLabelsPost wx n tr)) := Lib.hid (rlabels_any _ wx T n tr ⟨ot, ct, (HR.out.next hkx).gr⟩ hn (by omega) (fun x hx => HO.out x (HP.out.mem_iff.1 (hsub x hx))))
      have HKX := Lib.hid hkx
      clear hS hrow hy hkx hrX htt hsub
      go_upto_region 7 with (fail)
      clear hwx hX d1 d2 d3
      go_wp2_with fail
      refine HL.out.mono ?_
      rintro e1 w3 ⟨q, rfl, hs3, hk3⟩
      obtain ⟨q', hq', _, _, hrow3⟩ := hs3.pos (by omega)
      cases hq'
      have l0 := hrow3.cell (fints_get (labG tr) hoe.1)
      have l1 := hrow3.cell (fints_get (labG tr) hoe.2)
      have hX3 := HRX.out.keep hk3 (fun e => e)
      have x0 := hX3.cell (i := 0) rfl
      have x1 := hX3.cell (i := 1) rfl
      have x2 := hX3.cell (i := 2) rfl
      obtain ⟨la, hla⟩ : ∃ la, labG tr e.a = la := ⟨_, rfl⟩
      obtain ⟨lb, hlb⟩ : ∃ lb, labG tr e.b = lb := ⟨_, rfl⟩
      have hcn : la = lb ↔ Conn (ends tr) e.a e.b := by rw [← hla, ← hlb]; exact Iff.rfl
      rw [hla] at l0
      rw [hlb] at l1
      have HT3 : Hid (TrRel w1 T n tr rs ot oo ct co w3) := Lib.hid (HR.out.next (HKX.out.trans hk3))
      clear hs3 hk3 hrow3 hX3 hla hlb HL HR HRX HKX
      by_cases hab : la = lb
      · have b1 : ((la : Int) != (lb : Int)) = false := by simp; omega
        have HTN : Hid (treesOf (ds.take (i + 1)) = (tr, rs ++ [e])) := Lib.hid (by rw [HNX.out]; unfold treeStep; rw [if_pos (hcn.1 hab)])
        clear hab hcn HNX
        go_wp2_with fail
        go_quiet (fail)
        have hT4 := HT3.out.next ((Keep.refl Nb w3).drewN nq)
        obtain ⟨gq, cq, w5, r1, r2, r3⟩ := hT4.two.swap.pushF (by show w1.heap.size ≤ _; have := hT4.keep.size; omega) (by omega) e
        have HN : Hid (TrRel w1 T n tr (rs ++ [e]) ot (some ⟨gq, 0, none⟩) ct cq w5) := Lib.hid (hT4.rest r2 r3)
        have R1 := Lib.hid r1
        clear r1 r2 r3 hT4 HT3
        go_wp2_with (at_builtin; refine wpList_app rfl _ _ _ rfl rfl rfl R1.out ?_)
        go_roundg (m - (i + 1))
        case measure => omega
        case rel => exact ⟨i + 1, tr, rs ++ [e], ot, some ⟨gq, 0, none⟩, ct, cq, by rw [List.length_append]; rfl, by go_num, by omega, Nat.le_refl _, by omega, by rw [List.length_append]; simp; omega, HTN, HN⟩
      · have b1 : ((la : Int) != (lb : Int)) = true := by rw [bne_iff_ne]; omega
        have HTN : Hid (treesOf (ds.take (i + 1)) = (tr ++ [e], rs)) := Lib.hid (by rw [HNX.out]; unfold treeStep; rw [if_neg (fun h => hab (hcn.2 h))])
        clear hab hcn HNX
        go_wp2_with fail
        go_quiet (fail)
        obtain ⟨w4, hw4⟩ : ∃ w4, w3.drewN nq = w4 := ⟨_, rfl⟩
        have k4 : Keep Nb w3 w4 := by rw [← hw4]; exact (Keep.refl Nb w3).drewN nq
        have hT4 := HT3.out.next k4
        have y0 := k4.cell x0 (fun e => e)
        have y1 := k4.cell x1 (fun e => e)
        have y2 := k4.cell x2 (fun e => e)
        have t1 := hT4.head.cell (i := 1) rfl
        have ta := (hT4.next (((Keep.refl Nb w4).alloc (.cells #[.int .i64 e.id, .int .i64 e.a, .int .i64 e.b] 42)).drew)).head.cell (i := 1) rfl
        have hT5 := hT4.next ((Keep.refl Nb w4).drew)
        obtain ⟨gq, cq, w5, r1, r2, r3⟩ := hT5.two.pushF (by show w1.heap.size ≤ _; have := hT5.keep.size; omega) (by omega) e
        obtain ⟨hN1, hN2⟩ := hT5.tree r2 r3
        have t5 := hN2.cell (i := 1) rfl
        have f5 := hN2.frozen 1 none
        have hl5 := hN2.lt
        have HN : Hid (TrRel w1 T n (tr ++ [e]) rs (some ⟨gq, 0, none⟩) oo cq co (w5.setCell ⟨T, 1, none⟩ (.slice (some ⟨gq, 0, none⟩) (tr.length + 1) cq))) := Lib.hid (by
          rw [List.length_append] at hN1; exact hN1)
        have hz2 : w4.drew.heap.size = w4.heap.size := rfl
        rw [hz2] at r1
        have H1 := Lib.hid r1
        have mixed : (Tryz.prog).follows Departure.mixedOrders = true := by kernel_rfl
        rw [hw4]
        clear r1 r2 r3 hN1 hN2 hT4 hT5 HT3 k4 hw4 x0 x1 x2 l0 l1 hz2
        go_wp2_with fail
        go_region_law_o (refine step_app_run rfl _ _ 38 38 rfl (.slice ot tr.length ct) (.slice (some ⟨w4.heap.size, 0, none⟩) 1 1) (by simp [Act.eval, Act.put]) (by simp [Act.eval, Act.put]) H1.out ?_)
        all_goals
          (try go_wp2_with fail)
          go_roundg (m - (i + 1))
          case measure => omega
          case rel => exact ⟨i + 1, tr ++ [e], rs, some ⟨gq, 0, none⟩, oo, cq, co, rfl, by go_num, by omega, Nat.le_refl _, by rw [List.length_append]; simp; omega, by omega, HTN, HN⟩
    · as_aux_lemma =>
      obtain rfl : i = m := by omega
      have hTE : treesOf ds = (tr, rs) := by have := HTS.out; rwa [← HM.out, List.take_length] at this
      have htr : trE ds = tr := by unfold trE; rw [hTE]
      have hrs : rsE ds = rs := by unfold rsE; rw [hTE]
      subst htr
      subst hrs
      have HTR := Lib.hid HR.out
      have T := trees ds HS.out
      have hsub : ∀ x, x ∈ trE ds → x ∈ ds := fun x hx => T.subT.subset hx
      have HSB := Lib.hid hsub
      have HSR : Hid (∀ x, x ∈ rsE ds → x ∈ ds) := Lib.hid (fun x hx => ((T.mem x).1 hx).1)
      obtain ⟨w5, rfl⟩ : ∃ w' : World, w' = wr := ⟨_, rfl⟩
      obtain ⟨trn, htrn⟩ : ∃ k, (trE ds).length = k := ⟨_, rfl⟩
      obtain ⟨rsn, hrsn⟩ : ∃ k, (rsE ds).length = k := ⟨_, rfl⟩
      have HLN : Hid ((trE ds).length = trn ∧ (rsE ds).length = rsn) := Lib.hid ⟨htrn, hrsn⟩
      rw [htrn] at htl
      rw [hrsn] at hrl ⊢
      clear T hsub htrn hrsn HTS hTE HT1 HR
      go_wp2_with fail
      go_loopg [4, 58] rsn (fun kx s4 s58 wr => ∃ (k : Nat) (o : Option Addr) (c : Nat), s4 = .slice o k c ∧ s58 = .int .i64 k ∧ k ≤ rsn ∧ rsn - k ≤ kx ∧ Hid (NRows (fun x => w5.heap.size ≤ x) wr o k c (((rsE ds).take k).map (ringOf (trE ds))) ∧ Keep Nb w5 wr))
      case atStart => exact ⟨0, none, 0, rfl, rfl, Nat.zero_le _, by omega, Lib.hid ⟨NRows.nil _ _, Keep.refl _ _⟩⟩
      case round =>
        obtain ⟨k, o, c, rfl, rfl, hk, hgk, HR2⟩ := hrel
        by_cases hlk : k < rsn
        · obtain ⟨e, hy⟩ : ∃ e, (rsE ds)[k]? = some e := ⟨_, List.getElem?_eq_getElem (by rw [HLN.out.2]; exact hlk)⟩
          have hTr := HTR.out.next HR2.out.2
          have hSr := hTr.two.r
          rw [HLN.out.2] at hSr
          obtain ⟨ge, rfl, hFg, hnc, hrow⟩ := hSr.pos (by omega)
          have d1 := hrow.edges.id _ _ hy
          have d2 := hrow.edges.a _ _ hy
          have d3 := hrow.edges.b _ _ hy
          have hem := HSR.out e (List.mem_of_getElem? hy)
          have hoe := HO.out e (HP.out.mem_iff.1 hem)
          have HTK : Hid ((rsE ds).take (k + 1) = (rsE ds).take k ++ [e]) := Lib.hid (by rw [List.take_add_one, hy]; rfl)
          obtain ⟨X, hX⟩ : ∃ X, wr.heap.size = X := ⟨_, rfl⟩
          obtain ⟨wx, hwx⟩ : ∃ wx, wr.alloc (.cells #[.int .i64 e.id, .int .i64 e.a, .int .i64 e.b] 42) = wx := ⟨_, rfl⟩
          have hkx : Keep Nb wr wx := by rw [← hwx]; exact (Keep.refl Nb wr).alloc _
          have hrX : Row wx X 42 (ecells e) := by rw [← hwx, ← hX]; exact Row.new wr #[.int .i64 e.id, .int .i64 e.a, .int .i64 e.b] 42
          have HRX := Lib.hid hrX
          have x0 := hrX.cell (i := 0) rfl
          have HKX : Hid (Keep Nb w5 wx) := Lib.hid (HR2.out.2.trans hkx)
          have HR2X : Hid (NRows (fun x => w5.heap.size ≤ x) wx o k c (((rsE ds).take k).map (ringOf (trE ds)))) := Lib.hid (HR2.out.1.keep hkx (fun _ _ e => e))
          have hzx := HKX.out.size
          clear hTr hSr hrow hy hkx hrX HR2
          go_upto_region 15 with (fail)
          clear hwx hX d1 d2 d3
          obtain ⟨Y, hY⟩ : ∃ Y, wx.heap.size = Y := ⟨_, rfl⟩
          obtain ⟨wy, hwy⟩ : ∃ wy, wx.alloc (.cells #[.int .i64 e.id] 3) = wy := ⟨_, rfl⟩
          have hky : Keep Nb wx wy := by rw [← hwy]; exact (Keep.refl Nb wx).alloc _
          have hS0 : Sl (fun x => wx.heap.size ≤ x) wy 3 1 (some ⟨Y, 0, none⟩) 1 1 (ints ((e.id :: (((trE ds).take 0).filter (fun f => !decide (Conn (ends (sans (trE ds) [f.id])) e.a e.b))).map (·.id)))) := by
            rw [← hwy, ← hY]
            exact (Sl.built wx 3 1 1 [.int .i64 (e.id : Nat)] rfl (by simp only [maxLen]; omega)).mono (fun x h => by have h : x = wx.heap.size := h; omega)
          have HS0 := Lib.hid hS0
          have HKY := Lib.hid hky
          go_upto_region 16 with (fail)
          clear hwy hY hS0 hky x0
          have hTY := HTR.out.next (HKX.out.trans HKY.out)
          have t1 := hTY.head.cell (i := 1) rfl
          rw [HLN.out.1] at t1
          clear hTY
          go_wp2_with fail
          clear t1
          go_loopg [11, 70] trn (fun ky s11 s70 wr2 => ∃ (j : Nat) (oR : Option Addr) (lR cR : Nat), s11 = .slice oR lR cR ∧ s70 = .int .i64 j ∧ j ≤ trn ∧ trn - j ≤ ky ∧ lR ≤ j + 1 ∧
            Hid ((e.id :: (((trE ds).take j).filter (fun f => !decide (Conn (ends (sans (trE ds) [f.id])) e.a e.b))).map (·.id)).length = lR ∧ Sl (fun x => wx.heap.size ≤ x) wr2 3 1 oR lR cR (ints (e.id :: (((trE ds).take j).filter (fun f => !decide (Conn (ends (sans (trE ds) [f.id])) e.a e.b))).map (·.id))) ∧ Keep Nb wx wr2))
          case atStart => exact ⟨0, some ⟨Y, 0, none⟩, 1, 1, rfl, rfl, Nat.zero_le _, by omega, by omega, Lib.hid ⟨by simp, HS0.out, HKY.out⟩⟩
          case round =>
            obtain ⟨j, oR, lR, cR, rfl, rfl, hj, hgj, hlR, HR3⟩ := hrel
            clear HS0 HKY
            by_cases hlj : j < trn
            · as_aux_lemma =>
              obtain ⟨f, hf⟩ : ∃ f, (trE ds)[j]? = some f := ⟨_, List.getElem?_eq_getElem (by rw [HLN.out.1]; exact hlj)⟩
              have HF : Hid ((trE ds).take (j + 1) = (trE ds).take j ++ [f]) := Lib.hid (by rw [List.take_add_one, hf]; rfl)
              have hTr := HTR.out.next (HKX.out.trans HR3.out.2.2)
              have hSt := hTr.two.t
              rw [HLN.out.1] at hSt
              obtain ⟨gt, rfl, hFt, hnt, hrow⟩ := hSt.pos (by omega)
              have d1 := hrow.edges.id _ _ hf
              have d2 := hrow.edges.a _ _ hf
              have d3 := hrow.edges.b _ _ hf
              have hfm := List.mem_of_getElem? hf
              obtain ⟨Z, hZ⟩ : ∃ Z, wr.heap.size = Z := ⟨_, rfl⟩
              obtain ⟨wz, hwz⟩ : ∃ wz, wr.alloc (.cells #[.int .i64 f.id, .int .i64 f.a, .int .i64 f.b] 42) = wz := ⟨_, rfl⟩
              have hkz : Keep Nb wr wz := by rw [← hwz]; exact (Keep.refl Nb wr).alloc _
              have hrZ : Row wz Z 42 (ecells f) := by rw [← hwz, ← hZ]; exact Row.new wr #[.int .i64 f.id, .int .i64 f.a, .int .i64 f.b] 42
              have HRZ := Lib.hid hrZ
              have z0 := hrZ.cell (i := 0) rfl
              have HKZ : Hid (Keep Nb wx wz) := Lib.hid (HR3.out.2.2.trans hkz)
              have hTz := HTR.out.next (HKX.out.trans HKZ.out)
              have hle1 : (trE ds).length ≤ 1000 := by rw [HLN.out.1]; omega
              have hW := rwithout_any _ (fun k => k = wz.heap.size) (fun _ => False) (wz.alloc (.cells #[.int .i64 f.id] 3)) T n (trE ds) (some ⟨wz.heap.size, 0, none⟩) none 1 0 [f.id] [] (RGr.keep ⟨_, _, hTz.gr⟩ ((Keep.refl Nb wz).alloc _) (fun _ _ e => e)) hle1 (Sl.built wz 3 1 1 [.int .i64 (f.id : Nat)] rfl (by simp only [maxLen]; omega)) (Sl.nil _ _ _ _) (by simp) (by simp)
              have HW := Lib.hid hW
              have hKN : Hid (Keep Nb wr wz) := Lib.hid hkz
              clear hTr hSt hrow hf hkz hrZ hTz hW
              go_upto_region 19 with (fail)
              clear hwz hZ d1 d2 d3
              go_wp2_with fail
              refine HW.out.mono ?_
              rintro e1 w2 ⟨rfl, hg2, hk2⟩
              rw [World.size_alloc] at hg2 ⊢
              obtain ⟨rbn, hrbn⟩ : ∃ rbn, wz.heap.size + 1 = rbn := ⟨_, rfl⟩
              rw [hrbn] at hg2 ⊢
              have HK2 : Hid (Keep Nb wz w2) := Lib.hid (((Keep.refl Nb wz).alloc _).trans hk2)
              have HG2 := Lib.hid hg2
              have HOL : Hid (Over n (withoutEs [f.id] [] (trE ds)) ∧ (withoutEs [f.id] [] (trE ds)).length ≤ 1000) := Lib.hid ⟨fun x hx => HO.out x (HP.out.mem_iff.1 (HSB.out x (mem_withoutE.1 hx).1)), Nat.le_trans (List.length_filter_le _ _) hle1⟩
              clear hg2 hk2 hrbn z0 HW
              go_wp2_with fail
              refine (rlabels_any _ w2 rbn n (withoutEs [f.id] [] (trE ds)) HG2.out hn HOL.out.2 HOL.out.1).mono ?_
              rintro e1 w3 ⟨q, rfl, hs3, hk3⟩
              obtain ⟨q', hq', _, _, hrow3⟩ := hs3.pos (by omega)
              cases hq'
              have l0 := hrow3.cell (fints_get (labG (withoutEs [f.id] [] (trE ds))) hoe.1)
              have l1 := hrow3.cell (fints_get (labG (withoutEs [f.id] [] (trE ds))) hoe.2)
              have HK3 : Hid (Keep Nb wz w3) := Lib.hid (HK2.out.trans hk3)
              have hZ3 := HRZ.out.keep HK3.out (fun e => e)
              have z0 := hZ3.cell (i := 0) rfl
              have hX3 := HRX.out.keep (HKZ.out.trans HK3.out) (fun e => e)
              have x1 := hX3.cell (i := 1) rfl
              have x2 := hX3.cell (i := 2) rfl
              obtain ⟨la, hla⟩ : ∃ la, labG (withoutEs [f.id] [] (trE ds)) e.a = la := ⟨_, rfl⟩
              obtain ⟨lb, hlb⟩ : ∃ lb, labG (withoutEs [f.id] [] (trE ds)) e.b = lb := ⟨_, rfl⟩
              have hcn : la = lb ↔ Conn (ends (sans (trE ds) [f.id])) e.a e.b := by
                rw [← conn_less (List.Perm.refl _), ← hla, ← hlb]; exact Iff.rfl
              rw [hla] at l0
              rw [hlb] at l1
              have HZ3 := Lib.hid hZ3
              have HS4 : Hid (Sl (fun x => wx.heap.size ≤ x) w3 3 1 oR lR cR (ints (e.id :: (((trE ds).take j).filter (fun f => !decide (Conn (ends (sans (trE ds) [f.id])) e.a e.b))).map (·.id)))) := Lib.hid (HR3.out.2.1.keep (hKN.out.trans HK3.out) (fun _ _ e => e))
              have HK4 : Hid (Keep Nb wx w3) := Lib.hid (HKZ.out.trans HK3.out)
              have HLR := Lib.hid HR3.out.1
              clear hs3 hk3 hrow3 hla hlb HG2 HK2 hZ3 hX3 HR3 HKZ HK3 hKN HOL
              by_cases hab : la = lb
              · have b1 : ((la : Int) != (lb : Int)) = false := by simp; omega
                have hc := hcn.1 hab
                have HN : Hid (∀ wq, Keep Nb w3 wq → (e.id :: (((trE ds).take (j + 1)).filter (fun f => !decide (Conn (ends (sans (trE ds) [f.id])) e.a e.b))).map (·.id)).length = lR ∧ Sl (fun x => wx.heap.size ≤ x) wq 3 1 oR lR cR (ints (e.id :: (((trE ds).take (j + 1)).filter (fun f => !decide (Conn (ends (sans (trE ds) [f.id])) e.a e.b))).map (·.id))) ∧ Keep Nb wx wq) := Lib.hid (fun wq kq => by
                  have e1 : ((trE ds).take (j + 1)).filter (fun f => !decide (Conn (ends (sans (trE ds) [f.id])) e.a e.b)) = ((trE ds).take j).filter (fun f => !decide (Conn (ends (sans (trE ds) [f.id])) e.a e.b)) := by
                    rw [HF.out, List.filter_append]; simp [hc]
                  rw [e1]
                  exact ⟨HLR.out, HS4.out.keep kq (fun _ _ e => e), HK4.out.trans kq⟩)
                clear hab hcn hc
                go_wp2_with fail
                go_quiet (fail)
                go_wp2_with fail
                go_roundg (trn - (j + 1))
                case measure => omega
                case rel => exact ⟨j + 1, oR, lR, cR, rfl, by go_num, by omega, Nat.le_refl _, by omega, Lib.hid (HN.out _ ((Keep.refl Nb w3).drewN nq))⟩
              · have b1 : ((la : Int) != (lb : Int)) = true := by rw [bne_iff_ne]; omega
                have hc : ¬ Conn (ends (sans (trE ds) [f.id])) e.a e.b := fun h => hab (hcn.2 h)
                have HE1 : Hid (((trE ds).take (j + 1)).filter (fun f => !decide (Conn (ends (sans (trE ds) [f.id])) e.a e.b)) = ((trE ds).take j).filter (fun f => !decide (Conn (ends (sans (trE ds) [f.id])) e.a e.b)) ++ [f]) := Lib.hid (by
                  rw [HF.out, List.filter_append]; simp [hc])
                clear hab hcn hc
                go_wp2_with fail
                go_quiet (fail)
                have kw : Keep Nb w3 (w3.drewN nq) := (Keep.refl Nb w3).drewN nq
                have z0 := kw.cell (HZ3.out.cell (i := 0) rfl) (fun e => e)
                have hSo := HS4.out.keep kw (fun _ _ e => e)
                obtain ⟨w4, hw4⟩ : ∃ w4, w3.drewN nq = w4 := ⟨_, rfl⟩
                rw [hw4] at kw z0 hSo ⊢
                obtain ⟨gq, cq, w5', s1, s2, s3, s4⟩ := run_app1 (P := Tryz.prog) 33 33 3 Tryz.underlying33 elem_int rfl hSo (.int .i64 f.id) rfl (by omega) (by omega)
                have HN : Hid ((e.id :: (((trE ds).take (j + 1)).filter (fun f => !decide (Conn (ends (sans (trE ds) [f.id])) e.a e.b))).map (·.id)).length = lR + 1 ∧ Sl (fun x => wx.heap.size ≤ x) w5' 3 1 (some ⟨gq, 0, none⟩) (lR + 1) cq (ints (e.id :: (((trE ds).take (j + 1)).filter (fun f => !decide (Conn (ends (sans (trE ds) [f.id])) e.a e.b))).map (·.id))) ∧ Keep Nb wx w5') := Lib.hid (by
                  rw [HE1.out, List.map_append]
                  have e2 : e.id :: ((((trE ds).take j).filter (fun f => !decide (Conn (ends (sans (trE ds) [f.id])) e.a e.b))).map (·.id) ++ [f].map (·.id)) = (e.id :: (((trE ds).take j).filter (fun f => !decide (Conn (ends (sans (trE ds) [f.id])) e.a e.b))).map (·.id)) ++ [f.id] := rfl
                  rw [e2]
                  have zk := (HK4.out.trans kw).size
                  refine ⟨by rw [List.length_append, HLR.out]; rfl, ?_, (HK4.out.trans kw).trans' s3 (fun _ _ e => e) (fun x hx e => ?_)⟩
                  · rw [ints_append]
                    exact s2.mono (fun x hx => by rcases hx with hx | hx; exact hx; show wx.heap.size ≤ x; omega)
                  · obtain ⟨a, ha, hb⟩ := e
                    have := hSo.foot a ha
                    have hb : a.block = x := hb
                    have this : wx.heap.size ≤ a.block := this
                    show False; omega)
                have S1 := Lib.hid s1
                clear s1 s2 s3 s4 hSo HS4 HK4 HZ3 l0 l1 x1 x2 hw4 kw
                go_wp2_with (at_builtin; refine wpList_app rfl _ _ _ rfl rfl rfl S1.out ?_)
                go_roundg (trn - (j + 1))
                case measure => omega
                case rel => exact ⟨j + 1, some ⟨gq, 0, none⟩, lR + 1, cq, rfl, by go_num, by omega, Nat.le_refl _, by omega, HN⟩
            · as_aux_lemma =>
              obtain rfl : j = trn := by omega
              obtain ⟨hlen, hSl, hKl⟩ := HR3.out
              rw [List.take_of_length_le (by rw [HLN.out.1]; exact Nat.le_refl _)] at hlen hSl
              have hR5 := HR2X.out.keep hKl (fun _ _ e => e)
              have hlo : lR ≤ 121 := by omega
              have hrlen : (ringOf (trE ds) e).length = lR := hlen
              obtain ⟨gq, cq, w6, r1, r2, r3⟩ := hR5.app (l := ringOf (trE ds) e) (cq := cR) (oq := oR) (by omega) (by rw [hrlen]; exact hSl.mono (G := fun x => w5.heap.size ≤ x) (fun x hx => by have hx : wx.heap.size ≤ x := hx; show w5.heap.size ≤ x; omega)) (fun a ha hb => by
                obtain ⟨b, hb1, hb2⟩ := hb
                obtain ⟨_, _, _, _, hM⟩ := HR2X.out
                have h1 := hM.out.lt hb1
                have h2 : wx.heap.size ≤ a.block := hSl.foot a ha
                have hb2 : b.block = a.block := hb2
                omega) (by show w5.heap.size ≤ _; have := hKl.size; omega)
              have HN : Hid (NRows (fun x => w5.heap.size ≤ x) w6 (some ⟨gq, 0, none⟩) (k + 1) cq (((rsE ds).take (k + 1)).map (ringOf (trE ds))) ∧ Keep Nb w5 w6) := Lib.hid (by
                rw [HTK.out, List.map_append]
                refine ⟨r2, (HKX.out.trans hKl).trans' r3 (fun _ _ e => e) (fun x hx e => ?_)⟩
                obtain ⟨b, hb1, hb2⟩ := e
                obtain ⟨_, _, _, _, hM⟩ := HR2X.out
                have h1 : w5.heap.size ≤ b.block := hM.out.foot b hb1
                have hb2 : b.block = x := hb2
                show False; omega)
              rw [hrlen] at r1
              have R1 := Lib.hid r1
              clear r1 r2 r3 hR5 hSl hKl HR3 hlen hrlen
              go_wp2_with (at_builtin; refine wpList_app rfl _ _ _ rfl rfl rfl R1.out ?_)
              go_roundg (rsn - (k + 1))
              case measure => omega
              case rel => exact ⟨k + 1, some ⟨gq, 0, none⟩, cq, rfl, by go_num, by omega, Nat.le_refl _, HN⟩
        · obtain rfl : k = rsn := by omega
          have HF : Hid (RRingsPost w ds (.returned (.slice o k c)) wr) := Lib.hid (by
            have h1 := HR2.out.1
            have hlen := HLN.out.2
            rw [List.take_of_length_le (by omega)] at h1
            have k5 : Keep Nb w w5 := HK0.out.trans' HTR.out.keep (fun _ _ e => e) (fun x hx e => by have e : x = T := e; show False; omega)
            have z5 := k5.size
            rw [← hlen] at h1 ⊢
            exact ⟨o, c, rfl, h1.mono (fun x hx => by have hx : w5.heap.size ≤ x := hx; omega), k5.trans HR2.out.2⟩)
          clear HR2
          go_wp2_with fail
          go_ret
          exact HF.out

end Go.Proofs.YtkpoobnldgfapabGreatDoor
