/- Part 23 of the proof: E1 RNum. -/
import Derived.Test.YtkpoobnldgfapabGreatDoorIl01
import Derived.Test.YtkpoobnldgfapabGreatDoorIl03
import Derived.Test.YtkpoobnldgfapabGreatDoorIl08
import Derived.Test.YtkpoobnldgfapabGreatDoorIl10
import Derived.Test.YtkpoobnldgfapabGreatDoorIl12
import Derived.Test.YtkpoobnldgfapabGreatDoorIl15
import Derived.Test.YtkpoobnldgfapabGreatDoorIl19
import Derived.Test.YtkpoobnldgfapabGreatDoorIl20
import Derived.OwnWalk
import Derived.Deep.RegionHeld3
set_option linter.unusedVariables false
set_option linter.unusedSimpArgs false
namespace Go.Proofs.YtkpoobnldgfapabGreatDoor
open Go.RowKit Pl
structure RGrMem (F : Nat → Prop) (w : World) (b n : Nat) (es : List E) (o : Option Addr) (c : Nat) : Prop where
  head : Row w b 56 [.int .i64 n, .slice o es.length c]
  hb : F b
  s : Sl F w 42 3 o es.length c (ecs es)
  d : ∀ a, o = some a → a.block ≠ b
namespace RGrMem
variable {F : Nat → Prop} {w : World} {b n : Nat} {es : List E} {o : Option Addr} {c : Nat}
theorem keep {G : Nat → Prop} {w' : World} (h : RGrMem F w b n es o c) (k : Keep G w w') (d : ∀ k, F k → ¬ G k) : RGrMem F w' b n es o c := ⟨h.head.keep k (d b h.hb), h.hb, h.s.keep k d, h.d⟩
theorem drew (h : RGrMem F w b n es o c) : RGrMem F w.drew b n es o c := ⟨h.head.drew, h.hb, h.s.drew, h.d⟩
theorem alloc (h : RGrMem F w b n es o c) (ob : Obj) : RGrMem F (w.alloc ob) b n es o c := ⟨h.head.alloc ob, h.hb, h.s.alloc ob, h.d⟩
theorem mono {G : Nat → Prop} (h : RGrMem F w b n es o c) (hG : ∀ k, F k → G k) : RGrMem G w b n es o c := ⟨h.head, hG _ h.hb, h.s.mono hG, h.d⟩
theorem tight (h : RGrMem F w b n es o c) : RGrMem (fun k => F k ∧ k < w.heap.size) w b n es o c := ⟨h.head, ⟨h.hb, h.head.lt⟩, h.s.tight, h.d⟩
end RGrMem
def RGr (F : Nat → Prop) (w : World) (b n : Nat) (es : List E) : Prop := ∃ o c, RGrMem F w b n es o c
theorem RGr.keep {F G : Nat → Prop} {w w' : World} {b n : Nat} {es : List E} (h : RGr F w b n es) (k : Keep G w w') (d : ∀ k, F k → ¬ G k) : RGr F w' b n es := by
  obtain ⟨o, c, h⟩ := h; exact ⟨o, c, h.keep k d⟩
theorem RGr.drew {F : Nat → Prop} {w : World} {b n : Nat} {es : List E} (h : RGr F w b n es) : RGr F w.drew b n es := by
  obtain ⟨o, c, h⟩ := h; exact ⟨o, c, h.drew⟩
theorem RGr.alloc {F : Nat → Prop} {w : World} {b n : Nat} {es : List E} (h : RGr F w b n es) (ob : Obj) : RGr F (w.alloc ob) b n es := by
  obtain ⟨o, c, h⟩ := h; exact ⟨o, c, h.alloc ob⟩
theorem RGr.mono {F G : Nat → Prop} {w : World} {b n : Nat} {es : List E} (h : RGr F w b n es) (hG : ∀ k, F k → G k) : RGr G w b n es := by
  obtain ⟨o, c, h⟩ := h; exact ⟨o, c, h.mono hG⟩
theorem RGr.tight {F : Nat → Prop} {w : World} {b n : Nat} {es : List E} (h : RGr F w b n es) : RGr (fun k => F k ∧ k < w.heap.size) w b n es := by
  obtain ⟨o, c, h⟩ := h; exact ⟨o, c, h.tight⟩
theorem in_any (a lo hi : Int) (r : Bool) (hr : r = decide (lo ≤ a ∧ a ≤ hi)) (w : World) : Calls Tryz.prog 92 #[.int .i64 a, .int .i64 lo, .int .i64 hi] w fun e w' => e = .returned (.bool r) ∧ w = w' := by
  by_cases h1 : lo ≤ a
  · by_cases h2 : a ≤ hi
    · have hr2 : r = true := by rw [hr]; simp [h1, h2]
      clear hr; subst hr2
      go_enter Tryz.func92, Tryz.ntmps92
      go_wp2
      go_ret
      exact ⟨rfl, rfl⟩
    · have hr2 : r = false := by rw [hr]; simp; omega
      clear hr; subst hr2
      go_enter Tryz.func92, Tryz.ntmps92
      go_wp2
      go_ret
      exact ⟨rfl, rfl⟩
  · have hr2 : r = false := by rw [hr]; simp; omega
    clear hr; subst hr2
    go_enter Tryz.func92, Tryz.ntmps92
    go_wp2
    go_ret
    exact ⟨rfl, rfl⟩
theorem run_app_copy {P : Program} {w : World} {F : Nat → Prop} (t ty e : TypeId) {z : Value} {size bytes : Nat} (ht : P.underlying t = some (.slice e)) (hE : ElemT P e z size bytes) (hzs : z.cells.size = size) (hsz : 0 < size)
    {o : Option Addr} {n c : Nat} {xs : List Value} (hS : Sl F w e size o n c xs) (h1 : ∀ u ∈ xs, u.oneCell' = true) (hn : n ≤ 1000000) (hb : bytes ≤ 1000000) :
    ∃ g c' w', (Builtin.append_ #[t, t] ty #[.slice (some ⟨w.heap.size, 0, none⟩) 0 0, .slice o n c]).run P (w.alloc (.cells #[] e)) = .ok (.slice (some ⟨g, 0, none⟩) n c') w' ∧
      Sl (fun k => w.heap.size ≤ k) w' e size (some ⟨g, 0, none⟩) n c' xs ∧ Keep Nb w w' := by
  have hS0 : Sl (fun k => w.heap.size ≤ k) (w.alloc (.cells #[] e)) e size (some ⟨w.heap.size, 0, none⟩) 0 0 [] :=
    ⟨⟨by simp, .inr ⟨w.heap.size, 0, _, rfl, Nat.zero_le _, heap_alloc_new w _, Nat.le_refl _, Nat.zero_le _, by simp, by simp⟩⟩, fun a ha => by simp at ha; rw [← ha]; exact Nat.le_refl _⟩
  by_cases h0 : n = 0
  · subst h0
    have hx : xs = [] := List.eq_nil_of_length_eq_zero (by simpa using hS.len)
    subst hx
    refine ⟨w.heap.size, 0, w.alloc (.cells #[] e), ?_, hS0, (Keep.refl Nb w).alloc _⟩
    obtain ⟨i, hi, hz, hs, hb⟩ := info_parts hE
    cases o <;> simp [Builtin.append_, run_underlying ht, sizeOf, typeInfo, hi, Builtin.lenOf, Builtin.firstCells, loadCells, loadCellsFrom, storeCells]
  · obtain ⟨g, rfl, _, hnc, hrow⟩ := hS.pos (by omega)
    have hby : (0 + n) * bytes ≤ 140737488355328 := by
      have := Nat.mul_le_mul hn hb
      rw [Nat.zero_add]; omega
    obtain ⟨q, c', w', r1, r2, r3, r4⟩ := run_app (P := P) (w := w.alloc (.cells #[] e)) t ty e ht hE hzs hsz hS0 ⟨g, 0, none⟩ n c xs hS.len
      (fun j u hj => by
        rw [show (⟨g, 0, none⟩ : Addr).add j = ⟨g, j, none⟩ from by unfold Addr.add; split <;> simp_all]
        exact (hrow.alloc _).cell hj) h1 (by simp only [maxLen]; omega) hby (by omega)
    simp only [Nat.zero_add, List.nil_append] at r1 r2
    refine ⟨q, c', w', r1, r2.mono (fun k hk => by rcases hk with h | h; exact h; simp at h; omega), ?_⟩
    exact ((Keep.refl Nb w).alloc _).trans' r3 (fun _ _ e => e) (fun k hk e => by
      obtain ⟨x, hx, hb⟩ := e
      simp at hx; subst hx
      simp at hb; omega)
end Go.Proofs.YtkpoobnldgfapabGreatDoor
namespace Go.Proofs.YtkpoobnldgfapabGreatDoor
open Go.RowKit Pl
def raddEs (n : Nat) (es : List E) (id a b : Int) : List E :=
  if addBad n id a b ∨ a = b ∨ hasId es id = true ∨ 120 ≤ es.length then es else es ++ [mkE id a b]
def RAddPost (F : Nat → Prop) (w : World) (g n : Nat) (es : List E) (id a b : Int) (e : Ending) (w' : World) : Prop :=
  e = .returned (.int .i64 (addErr n es id a b)) ∧ RGr (fun k => F k ∨ w.heap.size ≤ k) w' g n (raddEs n es id a b) ∧ Keep F w w'
theorem RAddPost.err {F : Nat → Prop} {w w' : World} {g n : Nat} {es : List E} {id a b r : Int} (hG : RGr F w g n es) (hk : Keep Nb w w') (h1 : addErr n es id a b = r) (h2 : raddEs n es id a b = es) :
    RAddPost F w g n es id a b (.returned (.int .i64 r)) w' := by
  refine ⟨by rw [h1], ?_, hk.of_nb⟩
  rw [h2]
  exact (hG.keep hk (fun _ _ h => h)).mono (fun _ h => .inl h)
theorem hasId_false {es : List E} {t : Int} (h : ∀ k e, k < es.length → es[k]? = some e → (e.id : Int) ≠ t) : hasId es t = false := by
  simp only [hasId, List.any_eq_false, decide_eq_true_eq]
  intro e he
  obtain ⟨k, hk⟩ := List.mem_iff_getElem?.1 he
  exact h k e (List.getElem?_eq_some_iff.1 hk).1 hk
theorem hasId_true {es : List E} {t : Int} {k : Nat} {e : E} (h : es[k]? = some e) (he : (e.id : Int) = t) : hasId es t = true := by
  simp only [hasId, List.any_eq_true, decide_eq_true_eq]
  exact ⟨e, List.mem_of_getElem? h, he⟩
theorem radd_done {F : Nat → Prop} {w w1 w2 w3 : World} {g n c q c' q1 : Nat} {o : Option Addr} {es : List E} {id a b : Int} (hM : RGrMem F w g n es o c) (hk1 : Keep Nb w w1) (hk2 : Keep Nb w1 w2) (hq1 : w1.heap.size ≤ q1)
    (hS : Sl (fun k => w1.heap.size ≤ k ∨ k = w2.heap.size + 1) w3 42 3 (some ⟨q, 0, none⟩) (es.length + 1) c' (ecs es ++ ecells (mkE id a b))) (hK : Keep (Bl (some ⟨q1, 0, none⟩)) w2 w3) (hE : raddEs n es id a b = es ++ [mkE id a b]) (h0 : addErr n es id a b = 0) :
    RAddPost F w g n es id a b (.returned (.int .i64 0)) (w3.setCell ⟨g, 1, none⟩ (.slice (some ⟨q, 0, none⟩) (es.length + 1) c')) ∧ w3.cell? ⟨g, 1, none⟩ = some (.slice o es.length c) ∧ w3.frozen? ⟨g, 1, none⟩ = false := by
  have hk12 := hk1.trans hk2
  have z1 := hk1.size
  have z2 := hk2.size
  have hgw := hM.head.lt
  have hbl : ∀ k, Bl (some ⟨q1, 0, none⟩) k → w.heap.size ≤ k := by
    rintro k ⟨x, hx, rfl⟩
    simp at hx; subst hx
    show w.heap.size ≤ q1; omega
  have hhead : Row w3 g 56 [.int .i64 n, .slice o es.length c] := (hM.head.keep hk12 (fun h => h)).keep hK (fun h => by have := hbl _ h; omega)
  have hq : w.heap.size ≤ q := by
    have := hS.foot _ rfl
    simp only at this
    omega
  refine ⟨⟨by rw [h0], ⟨some ⟨q, 0, none⟩, c', ?_⟩, ?_⟩, hhead.cell (i := 1) rfl, hhead.frozen 1 none⟩
  · rw [hE]
    have hl : (es ++ [mkE id a b]).length = es.length + 1 := by simp
    refine ⟨?_, .inl hM.hb, ?_, fun x hx => by cases hx; show q ≠ g; omega⟩
    · have := hhead.set (i := 1) (by simp) (.slice (some ⟨q, 0, none⟩) (es.length + 1) c')
      rw [hl]
      exact this
    · rw [hl, ecs_append, ecs_cons, ecs_nil, List.append_nil]
      exact (hS.mono (G := fun k => F k ∨ w.heap.size ≤ k) (fun k hk => by rcases hk with h | h; exact .inr (by omega); exact .inr (by omega))).set_ne (p := ⟨g, 1, none⟩) (fun x hx => by cases hx; show q ≠ g; omega) _
  · exact ((hk12.of_nb).trans' hK (H := F) (fun _ _ h => h) (fun k hk h => by have := hbl k h; omega)).setCell (.inl hM.hb) _
set_option maxRecDepth 100000 in
set_option maxHeartbeats 1000000 in
theorem radd_any (F : Nat → Prop) (w : World) (g n : Nat) (es : List E) (id a b : Int) (hG : RGr F w g n es) (hF : ∀ k, F k → k < w.heap.size) (hn : n ≤ 40) (hl : es.length ≤ 120) :
    Calls Tryz.prog 30 #[.pointer (some ⟨g, 0, none⟩), .int .i64 id, .int .i64 a, .int .i64 b] w (RAddPost F w g n es id a b) := by
  obtain ⟨o, c, hM⟩ := hG
  have c0 := hM.head.cell (i := 0) rfl
  have c1 := hM.head.cell (i := 1) rfl
  have HM := Lib.hid hM
  clear hM
  by_cases hb : addBad n id a b
  · have hP : RAddPost F w g n es id a b (.returned (.int .i64 2)) w :=
      RAddPost.err ⟨o, c, HM.out⟩ (Keep.refl Nb w) (by unfold addErr; rw [if_pos hb]) (by unfold raddEs; rw [if_pos (.inl hb)])
    have HP := Lib.hid hP
    unfold addBad at hb
    by_cases h1 : 0 ≤ id ∧ id ≤ 1099511627776
    · by_cases h2 : 0 ≤ a ∧ a ≤ (n : Int) - 1
      · have h3 : ¬ (0 ≤ b ∧ b ≤ (n : Int) - 1) := by omega
        clear hb hP
        go_enter Tryz.func30, Tryz.ntmps30
        go_wp2_with fail
        refine (in_any _ _ _ true (by simp [h1]) _).mono ?_
        rintro e w1 ⟨rfl, rfl⟩
        go_wp2_with fail
        refine (in_any _ _ _ true (by simp [h2]) _).mono ?_
        rintro e w1 ⟨rfl, rfl⟩
        go_wp2_with fail
        refine (in_any _ _ _ false (by simp; omega) _).mono ?_
        rintro e w1 ⟨rfl, rfl⟩
        go_wp2_with fail
        go_ret
        exact HP.out
      · clear hb hP
        go_enter Tryz.func30, Tryz.ntmps30
        go_wp2_with fail
        refine (in_any _ _ _ true (by simp [h1]) _).mono ?_
        rintro e w1 ⟨rfl, rfl⟩
        go_wp2_with fail
        refine (in_any _ _ _ false (by simp; omega) _).mono ?_
        rintro e w1 ⟨rfl, rfl⟩
        go_wp2_with fail
        go_ret
        exact HP.out
    · clear hb hP
      go_enter Tryz.func30, Tryz.ntmps30
      go_wp2_with fail
      refine (in_any _ _ _ false (by simp; omega) _).mono ?_
      rintro e w1 ⟨rfl, rfl⟩
      go_wp2_with fail
      go_ret
      exact HP.out
  · have HB := Lib.hid hb
    have h1 : 0 ≤ id ∧ id ≤ 1099511627776 := by unfold addBad at hb; omega
    have h2 : 0 ≤ a ∧ a ≤ (n : Int) - 1 := by unfold addBad at hb; omega
    have h3 : 0 ≤ b ∧ b ≤ (n : Int) - 1 := by unfold addBad at hb; omega
    have I1 := Lib.hid h1
    have I2 := Lib.hid h2
    have I3 := Lib.hid h3
    clear hb
    by_cases hab : a = b
    · have hP : RAddPost F w g n es id a b (.returned (.int .i64 1)) w :=
        RAddPost.err ⟨o, c, HM.out⟩ (Keep.refl Nb w) (by unfold addErr; rw [if_neg HB.out, if_pos hab]) (by unfold raddEs; rw [if_pos (.inr (.inl hab))])
      have HP := Lib.hid hP
      have hab2 : (a == b) = true := by simpa using hab
      clear hP
      subst hab
      go_enter Tryz.func30, Tryz.ntmps30
      go_wp2_with fail
      refine (in_any _ _ _ true (by simp [I1.out]) _).mono ?_
      rintro e w1 ⟨rfl, rfl⟩
      go_wp2_with fail
      refine (in_any _ _ _ true (by simp [I2.out]) _).mono ?_
      rintro e w1 ⟨rfl, rfl⟩
      go_wp2_with fail
      refine (in_any _ _ _ true (by simp [I3.out]) _).mono ?_
      rintro e w1 ⟨rfl, rfl⟩
      go_wp2_with fail
      go_ret
      exact HP.out
    · have hab2 : (a == b) = false := by simpa using hab
      have HAB := Lib.hid hab
      clear hab
      go_enter Tryz.func30, Tryz.ntmps30
      go_wp2_with fail
      refine (in_any _ _ _ true (by simp [I1.out]) _).mono ?_
      rintro e w1 ⟨rfl, rfl⟩
      go_wp2_with fail
      refine (in_any _ _ _ true (by simp [I2.out]) _).mono ?_
      rintro e w1 ⟨rfl, rfl⟩
      go_wp2_with fail
      refine (in_any _ _ _ true (by simp [I3.out]) _).mono ?_
      rintro e w1 ⟨rfl, rfl⟩
      go_wp2_with fail
      go_loopg [42] es.length (fun kx s wr => ∃ i : Nat, s = .int .i64 i ∧ i ≤ es.length ∧ es.length - i ≤ kx ∧ Hid ((∀ k e, k < i → es[k]? = some e → (e.id : Int) ≠ id) ∧ Keep Nb w wr))
      case atStart => exact ⟨0, rfl, Nat.zero_le _, by omega, Lib.hid ⟨fun k e hk => absurd hk (by omega), Keep.refl _ _⟩⟩
      case round =>
        obtain ⟨i, rfl, hi, hg, HR⟩ := hrel
        by_cases hlt : i < es.length
        · obtain ⟨g', rfl, _, hnc, hrow⟩ := HM.out.s.pos (by omega)
          have hy := List.getElem?_eq_getElem hlt
          generalize es[i]'hlt = e at hy
          have hEr := hrow.edges.keep HR.out.2 (fun e => e)
          have d1 := hEr.id _ _ hy
          have d2 := hEr.a _ _ hy
          have d3 := hEr.b _ _ hy
          have HY := Lib.hid hy
          clear hy hrow hEr
          by_cases hid : (e.id : Int) = id
          · have hid2 : ((e.id : Int) == id) = true := by simpa using hid
            have HP : Hid (RAddPost F w g n es id a b (.returned (.int .i64 9)) (wr.alloc (.cells #[.int .i64 e.id, .int .i64 e.a, .int .i64 e.b] 42))) := Lib.hid (by
              have ht := hasId_true HY.out hid
              exact RAddPost.err ⟨_, c, HM.out⟩ (HR.out.2.trans ((Keep.refl Nb wr).alloc _)) (by unfold addErr; rw [if_neg HB.out, if_neg HAB.out, if_pos ht]) (by unfold raddEs; rw [if_pos (.inr (.inr (.inl ht)))]))
            clear hid
            go_wp2_with fail
            go_ret
            exact HP.out
          · have hid2 : ((e.id : Int) == id) = false := by simpa using hid
            have HN : Hid ((∀ k e, k < i + 1 → es[k]? = some e → (e.id : Int) ≠ id) ∧ Keep Nb w (wr.alloc (.cells #[.int .i64 e.id, .int .i64 e.a, .int .i64 e.b] 42))) := Lib.hid ⟨fun k f hk hf => by
              by_cases hki : k = i
              · subst hki; rw [HY.out] at hf; cases hf; exact hid
              · exact HR.out.1 k f (by omega) hf, HR.out.2.trans ((Keep.refl Nb wr).alloc _)⟩
            clear hid
            go_wp2_with fail
            go_roundg (es.length - (i + 1))
            case measure => omega
            case rel => exact ⟨i + 1, rfl, by omega, Nat.le_refl _, HN⟩
        · obtain rfl : i = es.length := by omega
          have hno := hasId_false HR.out.1
          have HNO := Lib.hid hno
          have c1' := HR.out.2.cell c1 (fun e => e)
          clear hno
          by_cases hfull : 120 ≤ es.length
          · have HP : Hid (RAddPost F w g n es id a b (.returned (.int .i64 12)) wr) := Lib.hid
              (RAddPost.err ⟨_, c, HM.out⟩ HR.out.2 (by unfold addErr; rw [if_neg HB.out, if_neg HAB.out, HNO.out, if_neg (by simp), if_pos hfull]) (by unfold raddEs; rw [if_pos (.inr (.inr (.inr hfull)))]))
            go_wp2_with fail
            go_ret
            exact HP.out
          · obtain ⟨x, y, hxy⟩ : ∃ x y : Int, (x = min a b ∧ y = max a b) := ⟨_, _, rfl, rfl⟩
            have hxyc : (b < a ∧ x = b ∧ y = a) ∨ (¬ b < a ∧ x = a ∧ y = b) := by omega
            have hcells : [Value.int .i64 id, .int .i64 x, .int .i64 y] = ecells (mkE id a b) := by
              have e1 : (id.toNat : Int) = id := by omega
              have e2 : ((min a b).toNat : Int) = x := by omega
              have e3 : ((max a b).toNat : Int) = y := by omega
              simp [ecells, mkE, e1, e2, e3]
            obtain ⟨q1, c1q, wb, r1, S1, K1⟩ := run_app_copy (P := Tryz.prog) (w := wr) 38 38 42 und_edges elem_edge (by rfl) (by omega) (HM.out.s.keep HR.out.2 (fun _ _ e => e)) (ecs_one es) (by omega) (by omega)
            obtain ⟨q2, c2q, wd, r2, S2, K2, Q2⟩ := run_appN (P := Tryz.prog) 38 38 42 und_edges elem_edge (by rfl) (by omega) S1 [Value.int .i64 id, .int .i64 x, .int .i64 y] 1 (by simp [Value.oneCell']) rfl (by omega) (by omega) (by omega)
            have hlt : g < wr.heap.size := World.block_lt_of_cell? wr _ c1'
            have hD := radd_done HM.out HR.out.2 K1 (S1.foot _ rfl) (by rw [hcells] at S2; exact S2) K2 (a := a) (b := b) (id := id) (by unfold raddEs; rw [if_neg]; rintro (h | h | h | h); exact HB.out h; exact HAB.out h; rw [HNO.out] at h; cases h; exact hfull h) (by unfold addErr; rw [if_neg HB.out, if_neg HAB.out, HNO.out, if_neg (by simp), if_neg hfull])
            obtain ⟨hD1, hg1, hg2⟩ := hD
            have HD := Lib.hid hD1
            have R1 := Lib.hid r1
            have R2 := Lib.hid r2
            clear r1 r2 S1 K1 S2 K2 Q2 hD1 hcells hxy
            rcases hxyc with ⟨hlt2, rfl, rfl⟩ | ⟨hlt2, rfl, rfl⟩
            all_goals
              go_wp2_with (first | (at_builtin; refine wpList_app (o := ⟨some 68, _, _, _, _, _⟩) rfl _ _ _ rfl rfl rfl R1.out ?_) | (at_builtin; refine wpList_app (o := ⟨some 74, _, _, _, _, _⟩) rfl _ _ _ rfl rfl rfl R2.out ?_))
              go_ret
              exact HD.out
end Go.Proofs.YtkpoobnldgfapabGreatDoor
namespace Go.Proofs.YtkpoobnldgfapabGreatDoor
open Go.RowKit Pl
end Go.Proofs.YtkpoobnldgfapabGreatDoor
namespace Go.Proofs.YtkpoobnldgfapabGreatDoor
open Go.RowKit Pl
def RWRel (w : World) (n : Nat) (ed nd : List Nat) (es : List E) (i : Nat) (q : Nat) (wr : World) : Prop :=
  q = w.heap.size ∧ RGr (fun k => w.heap.size ≤ k) wr q n (withoutEs ed nd (es.take i)) ∧ Keep Nb w wr
theorem RWRel.take {w wr w2 w3 : World} {n : Nat} {ed nd : List Nat} {es : List E} {i : Nat} {e : E} {o : Option Addr} {c : Nat} (hF : Keep Nb w wr) (hM : RGrMem (fun k => w.heap.size ≤ k) wr w.heap.size n (withoutEs ed nd (es.take i)) o c) (he : es[i]? = some e) (hk : keeps ed nd e = true)
    (k : Keep Nb wr w2) {g c' m : Nat} (hm : m = (withoutEs ed nd (es.take i)).length) (hS : Sl (fun k => w.heap.size ≤ k ∨ k = w2.heap.size + 1) w3 42 3 (some ⟨g, 0, none⟩) (m + 1) c' (ecs (withoutEs ed nd (es.take i)) ++ ecells e)) (hk3 : Keep (Bl o) w2 w3) (hg : o = some ⟨g, 0, none⟩ ∨ g = w2.heap.size + 1) :
    RWRel w n ed nd es (i + 1) w.heap.size (w3.setCell ⟨w.heap.size, 1, none⟩ (.slice (some ⟨g, 0, none⟩) (m + 1) c')) := by
  have hsz := k.size
  have hF1 := hF.size
  have hlt := hM.head.lt
  have hbl : ∀ j, Bl o j → w.heap.size ≤ j ∧ j ≠ w.heap.size := by
    rintro j ⟨x, hx, rfl⟩
    exact ⟨hM.s.foot x hx, hM.d x hx⟩
  have hgq : g ≠ w.heap.size := by
    rcases hg with h | h
    · exact hM.d _ h
    · omega
  have hhead := (hM.head.keep k (fun h => h)).keep hk3 (fun h => (hbl _ h).2 rfl)
  have hes : withoutEs ed nd (es.take (i + 1)) = withoutEs ed nd (es.take i) ++ [e] := by rw [withoutEs_succ he, hk]; rfl
  have hlen : (withoutEs ed nd (es.take (i + 1))).length = m + 1 := by rw [hes, List.length_append, ← hm]; rfl
  refine ⟨rfl, ⟨some ⟨g, 0, none⟩, c', ?_, ?_, ?_, ?_⟩, ?_⟩
  · have := hhead.set (i := 1) (by simp) (.slice (some ⟨g, 0, none⟩) (m + 1) c')
    rw [hlen]
    exact this
  · exact Nat.le_refl _
  · rw [hlen, hes, ecs_append, ecs_cons, ecs_nil, List.append_nil]
    exact (hS.mono (G := fun k => w.heap.size ≤ k) (fun j hj => by rcases hj with h | h; exact h; omega)).set_ne (p := ⟨w.heap.size, 1, none⟩) (fun x hx => by cases hx; exact hgq) _
  · intro x hx; cases hx; exact hgq
  · exact ((hF.trans k).trans' hk3 (H := Nb) (fun _ _ h => h) (fun j hj h => by have := (hbl j h).1; omega)).setCell (.inr (Nat.le_refl _)) _
end Go.Proofs.YtkpoobnldgfapabGreatDoor
namespace Go.Proofs.YtkpoobnldgfapabGreatDoor
open Go.RowKit Pl
def LRow (w : World) (q n : Nat) (f : Nat → Nat) (wr : World) : Prop :=
  Sl (fun k => w.heap.size ≤ k) wr 3 1 (some ⟨q, 0, none⟩) n n (fints n f) ∧ Keep Nb w wr
theorem LRow.set {w wr : World} {q n : Nat} {f : Nat → Nat} (h : LRow w q n f wr) {i : Nat} (hi : i < n) (v : Nat) : LRow w q n (upd f i v) (wr.setCell ⟨q, i, none⟩ (.int .i64 v)) := by
  refine ⟨?_, h.2.setCell (.inr (by have := h.1.foot _ rfl; exact this)) _⟩
  rw [← fints_set]
  exact h.1.set rfl hi _
theorem LRow.cell {w wr : World} {q n : Nat} {f : Nat → Nat} (h : LRow w q n f wr) {i : Nat} (hi : i < n) : wr.cell? ⟨q, i, none⟩ = some (.int .i64 (f i : Nat)) ∧ (∀ s, wr.frozen? ⟨q, i, s⟩ = false) ∧ q < wr.heap.size := by
  obtain ⟨g, e, _, _, hrow⟩ := h.1.pos (by omega)
  obtain rfl : q = g := by simpa using e
  exact ⟨hrow.cell (fints_get f hi), fun s => hrow.frozen i s, hrow.lt⟩
theorem LRow.keep {w wr w' : World} {q n : Nat} {f : Nat → Nat} (h : LRow w q n f wr) (k : Keep Nb wr w') : LRow w q n f w' := ⟨h.1.keep k (fun _ _ e => e), h.2.trans k⟩
theorem fints_congr {n : Nat} {f g : Nat → Nat} (h : ∀ x, x < n → f x = g x) : fints n f = fints n g := by
  unfold fints; congr 1; exact List.map_congr_left fun x hx => h x (List.mem_range.1 hx)
theorem LRow.congr {w wr : World} {q n : Nat} {f g : Nat → Nat} (h : LRow w q n f wr) (e : ∀ x, x < n → f x = g x) : LRow w q n g wr := ⟨by rw [← fints_congr e]; exact h.1, h.2⟩
end Go.Proofs.YtkpoobnldgfapabGreatDoor

namespace Go.Proofs.YtkpoobnldgfapabGreatDoor
open Go.RowKit Pl
def numT (l : List UInt8) : Option Int := match Lib.parseIntB 64 l with
  | .ok v => if Lib.itoa v = l then some v else none
  | _ => none
theorem pb64 {l : List UInt8} {v : Int} (h : Lib.parseIntB 64 l = .ok v) : -9223372036854775808 ≤ v ∧ v < 9223372036854775808 := by
  have := Lib.parseIntB_bounds h
  simpa using this
theorem slist (s : ByteArray) : s.toList = s.data.toList := by first | exact ByteArray.toList_eq s | exact Go.ByteArray.toList_eq s
theorem list_beq (l : List UInt8) (s : ByteArray) : (l == s.toList) = decide (l = s.data.toList) := by
  rw [slist, Bool.eq_iff_iff, beq_iff_eq, decide_eq_true_eq]
set_option maxRecDepth 100000 in
set_option maxHeartbeats 2000000 in
theorem rnumber_any (w : World) (hL : LibW w) (s : ByteArray) (hs : s.size ≤ 100000000) :
    Calls Tryz.prog 110 #[.string s] w fun e w' => e = .returned (.tuple #[.int .i64 ((numT s.data.toList).getD 0), .bool (numT s.data.toList).isSome]) ∧ Keep Nb w w' := by
  have HL := Lib.hid hL
  have HP := Lib.hid (parseInt_any w hL s (by omega))
  clear hL
  go_enter Tryz.func110, Tryz.ntmps110
  go_wp2_with fail
  refine HP.out.mono ?_
  rintro e1 w1 ⟨⟨v, ⟨hp, rfl⟩ | ⟨hno, t, p, rfl⟩⟩, hk1⟩
  · have hb := pb64 hp
    have HK := Lib.hid hk1
    have HF := Lib.hid (formatInt_any w1 (HL.out.keep hk1) v (by omega) (by omega))
    have hv : numT s.data.toList = if Lib.itoa v = s.data.toList then some v else none := by unfold numT; rw [hp]
    have HV := Lib.hid hv
    clear hk1 hv hp HP
    go_wp2_with fail
    refine HF.out.mono ?_
    rintro e1 w2 ⟨rfl, hk2⟩
    have HK2 := Lib.hid (HK.out.trans hk2)
    have hbe := list_beq (Lib.itoa v) s
    by_cases h : Lib.itoa v = s.data.toList
    · rw [decide_eq_true h] at hbe
      have HE := Lib.hid h
      clear h hk2 HF
      go_wp2_with fail
      go_ret2
      rw [HV.out, if_pos HE.out]
      exact ⟨rfl, HK2.out⟩
    · rw [decide_eq_false h] at hbe
      have HE := Lib.hid h
      clear h hk2 HF
      go_wp2_with fail
      go_ret2
      rw [HV.out, if_neg HE.out]
      exact ⟨rfl, HK2.out⟩
  · have hv : numT s.data.toList = none := by
      unfold numT
      cases hp : Lib.parseIntB 64 s.data.toList with
      | ok u => exact absurd hp (hno u)
      | _ => rfl
    have HV := Lib.hid hv
    have HK := Lib.hid hk1
    clear hv hno hk1
    go_wp2_with fail
    go_ret2
    rw [HV.out]
    exact ⟨rfl, HK.out⟩
end Go.Proofs.YtkpoobnldgfapabGreatDoor

