/- isthmusref: Add. -/
import Derived.Test.YtkpoobnldgfapabGreatDoorRGraph1
set_option linter.unusedVariables false
set_option linter.unusedSimpArgs false
namespace Go.Proofs.YtkpoobnldgfapabGreatDoor
open Go.RowKit Pl

def raddEs (n : Nat) (es : List E) (id a b : Int) : List E :=
  if addBad n id a b ∨ a = b ∨ hasId es id = true ∨ 120 ≤ es.length then es else es ++ [mkE id a b]

def RAddPost (F : Nat → Prop) (w : World) (g n : Nat) (es : List E) (id a b : Int) (e : Ending) (w' : World) : Prop :=
  e = .returned (.int .i64 (addErr n es id a b)) ∧ RGr (fun k => F k ∨ w.heap.size ≤ k) w' g n (raddEs n es id a b) ∧ Keep F w w'

theorem RAddPost.err {F : Nat → Prop} {w w' : World} {g n : Nat} {es : List E} {id a b r : Int} (hG : RGr F w g n es) (hk : Keep Nb w w') (h1 : addErr n es id a b = r) (h2 : raddEs n es id a b = es) :
    RAddPost F w g n es id a b (.returned (.int .i64 r)) w' := by
  refine ⟨by rw [h1], ?_, hk.of_nb⟩
  rw [h2]
  exact (hG.keep hk (fun _ _ h => h)).mono (fun _ h => .inl h)

theorem hasId_false {es : List E} {t : Int} (h : ∀ k e, k < es.length → es[k]? = some e → (e.id : Int) ≠ t) : hasId es t = false := by
  simp only [hasId, List.any_eq_false, decide_eq_true_eq]
  intro e he
  obtain ⟨k, hk⟩ := List.mem_iff_getElem?.1 he
  exact h k e (List.getElem?_eq_some_iff.1 hk).1 hk

theorem hasId_true {es : List E} {t : Int} {k : Nat} {e : E} (h : es[k]? = some e) (he : (e.id : Int) = t) : hasId es t = true := by
  simp only [hasId, List.any_eq_true, decide_eq_true_eq]
  exact ⟨e, List.mem_of_getElem? h, he⟩

theorem radd_done {F : Nat → Prop} {w w1 w2 w3 : World} {g n c q c' q1 : Nat} {o : Option Addr} {es : List E} {id a b : Int} (hM : RGrMem F w g n es o c) (hk1 : Keep Nb w w1) (hk2 : Keep Nb w1 w2) (hq1 : w1.heap.size ≤ q1)
    (hS : Sl (fun k => w1.heap.size ≤ k ∨ k = w2.heap.size + 1) w3 42 3 (some ⟨q, 0, none⟩) (es.length + 1) c' (ecs es ++ ecells (mkE id a b))) (hK : Keep (Bl (some ⟨q1, 0, none⟩)) w2 w3) (hE : raddEs n es id a b = es ++ [mkE id a b]) (h0 : addErr n es id a b = 0) :
    RAddPost F w g n es id a b (.returned (.int .i64 0)) (w3.setCell ⟨g, 1, none⟩ (.slice (some ⟨q, 0, none⟩) (es.length + 1) c')) ∧ w3.cell? ⟨g, 1, none⟩ = some (.slice o es.length c) ∧ w3.frozen? ⟨g, 1, none⟩ = false := by
  have hk12 := hk1.trans hk2
  have z1 := hk1.size
  have z2 := hk2.size
  have hgw := hM.head.lt
  have hbl : ∀ k, Bl (some ⟨q1, 0, none⟩) k → w.heap.size ≤ k := by
    rintro k ⟨x, hx, rfl⟩
    simp at hx; subst hx
    show w.heap.size ≤ q1; omega
  have hhead : Row w3 g 56 [.int .i64 n, .slice o es.length c] := (hM.head.keep hk12 (fun h => h)).keep hK (fun h => by have := hbl _ h; omega)
  have hq : w.heap.size ≤ q := by
    have := hS.foot _ rfl
    simp only at this
    omega
  refine ⟨⟨by rw [h0], ⟨some ⟨q, 0, none⟩, c', ?_⟩, ?_⟩, hhead.cell (i := 1) rfl, hhead.frozen 1 none⟩
  · rw [hE]
    have hl : (es ++ [mkE id a b]).length = es.length + 1 := by simp
    refine ⟨?_, .inl hM.hb, ?_, fun x hx => by cases hx; show q ≠ g; omega⟩
    · have := hhead.set (i := 1) (by simp) (.slice (some ⟨q, 0, none⟩) (es.length + 1) c')
      rw [hl]
      exact this
    · rw [hl, ecs_append, ecs_cons, ecs_nil, List.append_nil]
      exact (hS.mono (G := fun k => F k ∨ w.heap.size ≤ k) (fun k hk => by rcases hk with h | h; exact .inr (by omega); exact .inr (by omega))).set_ne (p := ⟨g, 1, none⟩) (fun x hx => by cases hx; show q ≠ g; omega) _
  · exact ((hk12.of_nb).trans' hK (H := F) (fun _ _ h => h) (fun k hk h => by have := hbl k h; omega)).setCell (.inl hM.hb) _

set_option maxRecDepth 100000 in
set_option maxHeartbeats 1000000 in
theorem radd_any (F : Nat → Prop) (w : World) (g n : Nat) (es : List E) (id a b : Int) (hG : RGr F w g n es) (hF : ∀ k, F k → k < w.heap.size) (hn : n ≤ 40) (hl : es.length ≤ 120) :
    Calls Tryz.prog 30 #[.pointer (some ⟨g, 0, none⟩), .int .i64 id, .int .i64 a, .int .i64 b] w (RAddPost F w g n es id a b) := by
  obtain ⟨o, c, hM⟩ := hG
  have c0 := hM.head.cell (i := 0) rfl
  have c1 := hM.head.cell (i := 1) rfl
  have HM := Lib.hid hM
  clear hM
  by_cases hb : addBad n id a b
  · have hP : RAddPost F w g n es id a b (.returned (.int .i64 2)) w :=
      RAddPost.err ⟨o, c, HM.out⟩ (Keep.refl Nb w) (by unfold addErr; rw [if_pos hb]) (by unfold raddEs; rw [if_pos (.inl hb)])
    have HP := Lib.hid hP
    unfold addBad at hb
    by_cases h1 : 0 ≤ id ∧ id ≤ 1099511627776
    · by_cases h2 : 0 ≤ a ∧ a ≤ (n : Int) - 1
      · have h3 : ¬ (0 ≤ b ∧ b ≤ (n : Int) - 1) := by omega
        clear hb hP
        go_enter Tryz.func30, Tryz.ntmps30
        go_wp2_with fail
        refine (in_any _ _ _ true (by simp [h1]) _).mono ?_
        rintro e w1 ⟨rfl, rfl⟩
        go_wp2_with fail
        refine (in_any _ _ _ true (by simp [h2]) _).mono ?_
        rintro e w1 ⟨rfl, rfl⟩
        go_wp2_with fail
        refine (in_any _ _ _ false (by simp; omega) _).mono ?_
        rintro e w1 ⟨rfl, rfl⟩
        go_wp2_with fail
        go_ret
        exact HP.out
      · clear hb hP
        go_enter Tryz.func30, Tryz.ntmps30
        go_wp2_with fail
        refine (in_any _ _ _ true (by simp [h1]) _).mono ?_
        rintro e w1 ⟨rfl, rfl⟩
        go_wp2_with fail
        refine (in_any _ _ _ false (by simp; omega) _).mono ?_
        rintro e w1 ⟨rfl, rfl⟩
        go_wp2_with fail
        go_ret
        exact HP.out
    · clear hb hP
      go_enter Tryz.func30, Tryz.ntmps30
      go_wp2_with fail
      refine (in_any _ _ _ false (by simp; omega) _).mono ?_
      rintro e w1 ⟨rfl, rfl⟩
      go_wp2_with fail
      go_ret
      exact HP.out
  · have HB := Lib.hid hb
    have h1 : 0 ≤ id ∧ id ≤ 1099511627776 := by unfold addBad at hb; omega
    have h2 : 0 ≤ a ∧ a ≤ (n : Int) - 1 := by unfold addBad at hb; omega
    have h3 : 0 ≤ b ∧ b ≤ (n : Int) - 1 := by unfold addBad at hb; omega
    have I1 := Lib.hid h1
    have I2 := Lib.hid h2
    have I3 := Lib.hid h3
    clear hb
    by_cases hab : a = b
    · have hP : RAddPost F w g n es id a b (.returned (.int .i64 1)) w :=
        RAddPost.err ⟨o, c, HM.out⟩ (Keep.refl Nb w) (by unfold addErr; rw [if_neg HB.out, if_pos hab]) (by unfold raddEs; rw [if_pos (.inr (.inl hab))])
      have HP := Lib.hid hP
      have hab2 : (a == b) = true := by simpa using hab
      clear hP
      subst hab
      go_enter Tryz.func30, Tryz.ntmps30
      go_wp2_with fail
      refine (in_any _ _ _ true (by simp [I1.out]) _).mono ?_
      rintro e w1 ⟨rfl, rfl⟩
      go_wp2_with fail
      refine (in_any _ _ _ true (by simp [I2.out]) _).mono ?_
      rintro e w1 ⟨rfl, rfl⟩
      go_wp2_with fail
      refine (in_any _ _ _ true (by simp [I3.out]) _).mono ?_
      rintro e w1 ⟨rfl, rfl⟩
      go_wp2_with fail
      go_ret
      exact HP.out
    · have hab2 : (a == b) = false := by simpa using hab
      have HAB := Lib.hid hab
      clear hab
      go_enter Tryz.func30, Tryz.ntmps30
      go_wp2_with fail
      refine (in_any _ _ _ true (by simp [I1.out]) _).mono ?_
      rintro e w1 ⟨rfl, rfl⟩
      go_wp2_with fail
      refine (in_any _ _ _ true (by simp [I2.out]) _).mono ?_
      rintro e w1 ⟨rfl, rfl⟩
      go_wp2_with fail
      refine (in_any _ _ _ true (by simp [I3.out]) _).mono ?_
      rintro e w1 ⟨rfl, rfl⟩
      go_wp2_with fail
      go_loopg [42] es.length (fun kx s wr => ∃ i : Nat, s = .int .i64 i ∧ i ≤ es.length ∧ es.length - i ≤ kx ∧ Hid ((∀ k e, k < i → es[k]? = some e → (e.id : Int) ≠ id) ∧ Keep Nb w wr))
      case atStart => exact ⟨0, rfl, Nat.zero_le _, by omega, Lib.hid ⟨fun k e hk => absurd hk (by omega), Keep.refl _ _⟩⟩
      case round =>
        obtain ⟨i, rfl, hi, hg, HR⟩ := hrel
        by_cases hlt : i < es.length
        · obtain ⟨g', rfl, _, hnc, hrow⟩ := HM.out.s.pos (by omega)
          have hy := List.getElem?_eq_getElem hlt
          generalize es[i]'hlt = e at hy
          have hEr := hrow.edges.keep HR.out.2 (fun e => e)
          have d1 := hEr.id _ _ hy
          have d2 := hEr.a _ _ hy
          have d3 := hEr.b _ _ hy
          have HY := Lib.hid hy
          clear hy hrow hEr
          by_cases hid : (e.id : Int) = id
          · have hid2 : ((e.id : Int) == id) = true := by simpa using hid
            have HP : Hid (RAddPost F w g n es id a b (.returned (.int .i64 9)) (wr.alloc (.cells #[.int .i64 e.id, .int .i64 e.a, .int .i64 e.b] 42))) := Lib.hid (by
              have ht := hasId_true HY.out hid
              exact RAddPost.err ⟨_, c, HM.out⟩ (HR.out.2.trans ((Keep.refl Nb wr).alloc _)) (by unfold addErr; rw [if_neg HB.out, if_neg HAB.out, if_pos ht]) (by unfold raddEs; rw [if_pos (.inr (.inr (.inl ht)))]))
            clear hid
            go_wp2_with fail
            go_ret
            exact HP.out
          · have hid2 : ((e.id : Int) == id) = false := by simpa using hid
            have HN : Hid ((∀ k e, k < i + 1 → es[k]? = some e → (e.id : Int) ≠ id) ∧ Keep Nb w (wr.alloc (.cells #[.int .i64 e.id, .int .i64 e.a, .int .i64 e.b] 42))) := Lib.hid ⟨fun k f hk hf => by
              by_cases hki : k = i
              · subst hki; rw [HY.out] at hf; cases hf; exact hid
              · exact HR.out.1 k f (by omega) hf, HR.out.2.trans ((Keep.refl Nb wr).alloc _)⟩
            clear hid
            go_wp2_with fail
            go_roundg (es.length - (i + 1))
            case measure => omega
            case rel => exact ⟨i + 1, rfl, by omega, Nat.le_refl _, HN⟩
        · obtain rfl : i = es.length := by omega
          have hno := hasId_false HR.out.1
          have HNO := Lib.hid hno
          have c1' := HR.out.2.cell c1 (fun e => e)
          clear hno
          by_cases hfull : 120 ≤ es.length
          · have HP : Hid (RAddPost F w g n es id a b (.returned (.int .i64 12)) wr) := Lib.hid
              (RAddPost.err ⟨_, c, HM.out⟩ HR.out.2 (by unfold addErr; rw [if_neg HB.out, if_neg HAB.out, HNO.out, if_neg (by simp), if_pos hfull]) (by unfold raddEs; rw [if_pos (.inr (.inr (.inr hfull)))]))
            go_wp2_with fail
            go_ret
            exact HP.out
          · obtain ⟨x, y, hxy⟩ : ∃ x y : Int, (x = min a b ∧ y = max a b) := ⟨_, _, rfl, rfl⟩
            have hxyc : (b < a ∧ x = b ∧ y = a) ∨ (¬ b < a ∧ x = a ∧ y = b) := by omega
            have hcells : [Value.int .i64 id, .int .i64 x, .int .i64 y] = ecells (mkE id a b) := by
              have e1 : (id.toNat : Int) = id := by omega
              have e2 : ((min a b).toNat : Int) = x := by omega
              have e3 : ((max a b).toNat : Int) = y := by omega
              simp [ecells, mkE, e1, e2, e3]
            obtain ⟨q1, c1q, wb, r1, S1, K1⟩ := run_app_copy (P := Tryz.prog) (w := wr) 38 38 42 und_edges elem_edge (by rfl) (by omega) (HM.out.s.keep HR.out.2 (fun _ _ e => e)) (ecs_one es) (by omega) (by omega)
            obtain ⟨q2, c2q, wd, r2, S2, K2, Q2⟩ := run_appN (P := Tryz.prog) 38 38 42 und_edges elem_edge (by rfl) (by omega) S1 [Value.int .i64 id, .int .i64 x, .int .i64 y] 1 (by simp [Value.oneCell']) rfl (by omega) (by omega) (by omega)
            have hlt : g < wr.heap.size := World.block_lt_of_cell? wr _ c1'
            have hD := radd_done HM.out HR.out.2 K1 (S1.foot _ rfl) (by rw [hcells] at S2; exact S2) K2 (a := a) (b := b) (id := id) (by unfold raddEs; rw [if_neg]; rintro (h | h | h | h); exact HB.out h; exact HAB.out h; rw [HNO.out] at h; cases h; exact hfull h) (by unfold addErr; rw [if_neg HB.out, if_neg HAB.out, HNO.out, if_neg (by simp), if_neg hfull])
            obtain ⟨hD1, hg1, hg2⟩ := hD
            have HD := Lib.hid hD1
            have R1 := Lib.hid r1
            have R2 := Lib.hid r2
            clear r1 r2 S1 K1 S2 K2 Q2 hD1 hcells hxy
            rcases hxyc with ⟨hlt2, rfl, rfl⟩ | ⟨hlt2, rfl, rfl⟩
            all_goals
              go_wp2_with (first | (at_builtin; refine wpList_app (o := ⟨some 68, _, _, _, _, _⟩) rfl _ _ _ rfl rfl rfl R1.out ?_) | (at_builtin; refine wpList_app (o := ⟨some 74, _, _, _, _, _⟩) rfl _ _ _ rfl rfl rfl R2.out ?_))
              go_ret
              exact HD.out

end Go.Proofs.YtkpoobnldgfapabGreatDoor
