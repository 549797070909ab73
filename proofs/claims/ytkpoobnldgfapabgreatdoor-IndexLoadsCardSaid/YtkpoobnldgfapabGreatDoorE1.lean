/- Joined: RGraph1 RGraph2 RGraph3 RGraph4 RLabels. -/
import Derived.Test.YtkpoobnldgfapabGreatDoorA5
import Derived.Test.YtkpoobnldgfapabGreatDoorGrT
import Derived.Test.YtkpoobnldgfapabGreatDoorP3
import Derived.Test.YtkpoobnldgfapabGreatDoorA6
import Derived.Test.YtkpoobnldgfapabGreatDoorMake
import Derived.Deep.RegionHeld3
set_option linter.unusedVariables false
set_option linter.unusedSimpArgs false
/- isthmusref: a Graph in memory; in; Add. -/
namespace Go.Proofs.YtkpoobnldgfapabGreatDoor
open Go.RowKit Pl

structure RGrMem (F : Nat → Prop) (w : World) (b n : Nat) (es : List E) (o : Option Addr) (c : Nat) : Prop where
  head : Row w b 56 [.int .i64 n, .slice o es.length c]
  hb : F b
  s : Sl F w 42 3 o es.length c (ecs es)
  d : ∀ a, o = some a → a.block ≠ b

namespace RGrMem
variable {F : Nat → Prop} {w : World} {b n : Nat} {es : List E} {o : Option Addr} {c : Nat}
theorem keep {G : Nat → Prop} {w' : World} (h : RGrMem F w b n es o c) (k : Keep G w w') (d : ∀ k, F k → ¬ G k) : RGrMem F w' b n es o c := ⟨h.head.keep k (d b h.hb), h.hb, h.s.keep k d, h.d⟩
theorem drew (h : RGrMem F w b n es o c) : RGrMem F w.drew b n es o c := ⟨h.head.drew, h.hb, h.s.drew, h.d⟩
theorem alloc (h : RGrMem F w b n es o c) (ob : Obj) : RGrMem F (w.alloc ob) b n es o c := ⟨h.head.alloc ob, h.hb, h.s.alloc ob, h.d⟩
theorem mono {G : Nat → Prop} (h : RGrMem F w b n es o c) (hG : ∀ k, F k → G k) : RGrMem G w b n es o c := ⟨h.head, hG _ h.hb, h.s.mono hG, h.d⟩
theorem tight (h : RGrMem F w b n es o c) : RGrMem (fun k => F k ∧ k < w.heap.size) w b n es o c := ⟨h.head, ⟨h.hb, h.head.lt⟩, h.s.tight, h.d⟩
end RGrMem

/-- A graph of the document's in memory. -/
def RGr (F : Nat → Prop) (w : World) (b n : Nat) (es : List E) : Prop := ∃ o c, RGrMem F w b n es o c

theorem RGr.keep {F G : Nat → Prop} {w w' : World} {b n : Nat} {es : List E} (h : RGr F w b n es) (k : Keep G w w') (d : ∀ k, F k → ¬ G k) : RGr F w' b n es := by
  obtain ⟨o, c, h⟩ := h; exact ⟨o, c, h.keep k d⟩
theorem RGr.drew {F : Nat → Prop} {w : World} {b n : Nat} {es : List E} (h : RGr F w b n es) : RGr F w.drew b n es := by
  obtain ⟨o, c, h⟩ := h; exact ⟨o, c, h.drew⟩
theorem RGr.alloc {F : Nat → Prop} {w : World} {b n : Nat} {es : List E} (h : RGr F w b n es) (ob : Obj) : RGr F (w.alloc ob) b n es := by
  obtain ⟨o, c, h⟩ := h; exact ⟨o, c, h.alloc ob⟩
theorem RGr.mono {F G : Nat → Prop} {w : World} {b n : Nat} {es : List E} (h : RGr F w b n es) (hG : ∀ k, F k → G k) : RGr G w b n es := by
  obtain ⟨o, c, h⟩ := h; exact ⟨o, c, h.mono hG⟩
theorem RGr.tight {F : Nat → Prop} {w : World} {b n : Nat} {es : List E} (h : RGr F w b n es) : RGr (fun k => F k ∧ k < w.heap.size) w b n es := by
  obtain ⟨o, c, h⟩ := h; exact ⟨o, c, h.tight⟩

theorem in_any (a lo hi : Int) (r : Bool) (hr : r = decide (lo ≤ a ∧ a ≤ hi)) (w : World) : Calls Tryz.prog 92 #[.int .i64 a, .int .i64 lo, .int .i64 hi] w fun e w' => e = .returned (.bool r) ∧ w = w' := by
  by_cases h1 : lo ≤ a
  · by_cases h2 : a ≤ hi
    · have hr2 : r = true := by rw [hr]; simp [h1, h2]
      clear hr; subst hr2
      go_enter Tryz.func92, Tryz.ntmps92
      go_wp2
      go_ret
      exact ⟨rfl, rfl⟩
    · have hr2 : r = false := by rw [hr]; simp; omega
      clear hr; subst hr2
      go_enter Tryz.func92, Tryz.ntmps92
      go_wp2
      go_ret
      exact ⟨rfl, rfl⟩
  · have hr2 : r = false := by rw [hr]; simp; omega
    clear hr; subst hr2
    go_enter Tryz.func92, Tryz.ntmps92
    go_wp2
    go_ret
    exact ⟨rfl, rfl⟩

/-- 'append([]T{}, xs...)': a copy in a block of its own. w: ahead of the empty row. -/
theorem run_app_copy {P : Program} {w : World} {F : Nat → Prop} (t ty e : TypeId) {z : Value} {size bytes : Nat} (ht : P.underlying t = some (.slice e)) (hE : ElemT P e z size bytes) (hzs : z.cells.size = size) (hsz : 0 < size)
    {o : Option Addr} {n c : Nat} {xs : List Value} (hS : Sl F w e size o n c xs) (h1 : ∀ u ∈ xs, u.oneCell' = true) (hn : n ≤ 1000000) (hb : bytes ≤ 1000000) :
    ∃ g c' w', (Builtin.append_ #[t, t] ty #[.slice (some ⟨w.heap.size, 0, none⟩) 0 0, .slice o n c]).run P (w.alloc (.cells #[] e)) = .ok (.slice (some ⟨g, 0, none⟩) n c') w' ∧
      Sl (fun k => w.heap.size ≤ k) w' e size (some ⟨g, 0, none⟩) n c' xs ∧ Keep Nb w w' := by
  have hS0 : Sl (fun k => w.heap.size ≤ k) (w.alloc (.cells #[] e)) e size (some ⟨w.heap.size, 0, none⟩) 0 0 [] :=
    ⟨⟨by simp, .inr ⟨w.heap.size, 0, _, rfl, Nat.zero_le _, heap_alloc_new w _, Nat.le_refl _, Nat.zero_le _, by simp, by simp⟩⟩, fun a ha => by simp at ha; rw [← ha]; exact Nat.le_refl _⟩
  by_cases h0 : n = 0
  · subst h0
    have hx : xs = [] := List.eq_nil_of_length_eq_zero (by simpa using hS.len)
    subst hx
    refine ⟨w.heap.size, 0, w.alloc (.cells #[] e), ?_, hS0, (Keep.refl Nb w).alloc _⟩
    obtain ⟨i, hi, hz, hs, hb⟩ := info_parts hE
    cases o <;> simp [Builtin.append_, run_underlying ht, sizeOf, typeInfo, hi, Builtin.lenOf, Builtin.firstCells, loadCells, loadCellsFrom, storeCells]
  · obtain ⟨g, rfl, _, hnc, hrow⟩ := hS.pos (by omega)
    have hby : (0 + n) * bytes ≤ 140737488355328 := by
      have := Nat.mul_le_mul hn hb
      rw [Nat.zero_add]; omega
    obtain ⟨q, c', w', r1, r2, r3, r4⟩ := run_app (P := P) (w := w.alloc (.cells #[] e)) t ty e ht hE hzs hsz hS0 ⟨g, 0, none⟩ n c xs hS.len
      (fun j u hj => by
        rw [show (⟨g, 0, none⟩ : Addr).add j = ⟨g, j, none⟩ from by unfold Addr.add; split <;> simp_all]
        exact (hrow.alloc _).cell hj) h1 (by simp only [maxLen]; omega) hby (by omega)
    simp only [Nat.zero_add, List.nil_append] at r1 r2
    refine ⟨q, c', w', r1, r2.mono (fun k hk => by rcases hk with h | h; exact h; simp at h; omega), ?_⟩
    exact ((Keep.refl Nb w).alloc _).trans' r3 (fun _ _ e => e) (fun k hk e => by
      obtain ⟨x, hx, hb⟩ := e
      simp at hx; subst hx
      simp at hb; omega)

end Go.Proofs.YtkpoobnldgfapabGreatDoor

/- isthmusref: Add. -/
namespace Go.Proofs.YtkpoobnldgfapabGreatDoor
open Go.RowKit Pl

def raddEs (n : Nat) (es : List E) (id a b : Int) : List E :=
  if addBad n id a b ∨ a = b ∨ hasId es id = true ∨ 120 ≤ es.length then es else es ++ [mkE id a b]

def RAddPost (F : Nat → Prop) (w : World) (g n : Nat) (es : List E) (id a b : Int) (e : Ending) (w' : World) : Prop :=
  e = .returned (.int .i64 (addErr n es id a b)) ∧ RGr (fun k => F k ∨ w.heap.size ≤ k) w' g n (raddEs n es id a b) ∧ Keep F w w'

theorem RAddPost.err {F : Nat → Prop} {w w' : World} {g n : Nat} {es : List E} {id a b r : Int} (hG : RGr F w g n es) (hk : Keep Nb w w') (h1 : addErr n es id a b = r) (h2 : raddEs n es id a b = es) :
    RAddPost F w g n es id a b (.returned (.int .i64 r)) w' := by
  refine ⟨by rw [h1], ?_, hk.of_nb⟩
  rw [h2]
  exact (hG.keep hk (fun _ _ h => h)).mono (fun _ h => .inl h)

theorem hasId_false {es : List E} {t : Int} (h : ∀ k e, k < es.length → es[k]? = some e → (e.id : Int) ≠ t) : hasId es t = false := by
  simp only [hasId, List.any_eq_false, decide_eq_true_eq]
  intro e he
  obtain ⟨k, hk⟩ := List.mem_iff_getElem?.1 he
  exact h k e (List.getElem?_eq_some_iff.1 hk).1 hk

theorem hasId_true {es : List E} {t : Int} {k : Nat} {e : E} (h : es[k]? = some e) (he : (e.id : Int) = t) : hasId es t = true := by
  simp only [hasId, List.any_eq_true, decide_eq_true_eq]
  exact ⟨e, List.mem_of_getElem? h, he⟩

theorem radd_done {F : Nat → Prop} {w w1 w2 w3 : World} {g n c q c' q1 : Nat} {o : Option Addr} {es : List E} {id a b : Int} (hM : RGrMem F w g n es o c) (hk1 : Keep Nb w w1) (hk2 : Keep Nb w1 w2) (hq1 : w1.heap.size ≤ q1)
    (hS : Sl (fun k => w1.heap.size ≤ k ∨ k = w2.heap.size + 1) w3 42 3 (some ⟨q, 0, none⟩) (es.length + 1) c' (ecs es ++ ecells (mkE id a b))) (hK : Keep (Bl (some ⟨q1, 0, none⟩)) w2 w3) (hE : raddEs n es id a b = es ++ [mkE id a b]) (h0 : addErr n es id a b = 0) :
    RAddPost F w g n es id a b (.returned (.int .i64 0)) (w3.setCell ⟨g, 1, none⟩ (.slice (some ⟨q, 0, none⟩) (es.length + 1) c')) ∧ w3.cell? ⟨g, 1, none⟩ = some (.slice o es.length c) ∧ w3.frozen? ⟨g, 1, none⟩ = false := by
  have hk12 := hk1.trans hk2
  have z1 := hk1.size
  have z2 := hk2.size
  have hgw := hM.head.lt
  have hbl : ∀ k, Bl (some ⟨q1, 0, none⟩) k → w.heap.size ≤ k := by
    rintro k ⟨x, hx, rfl⟩
    simp at hx; subst hx
    show w.heap.size ≤ q1; omega
  have hhead : Row w3 g 56 [.int .i64 n, .slice o es.length c] := (hM.head.keep hk12 (fun h => h)).keep hK (fun h => by have := hbl _ h; omega)
  have hq : w.heap.size ≤ q := by
    have := hS.foot _ rfl
    simp only at this
    omega
  refine ⟨⟨by rw [h0], ⟨some ⟨q, 0, none⟩, c', ?_⟩, ?_⟩, hhead.cell (i := 1) rfl, hhead.frozen 1 none⟩
  · rw [hE]
    have hl : (es ++ [mkE id a b]).length = es.length + 1 := by simp
    refine ⟨?_, .inl hM.hb, ?_, fun x hx => by cases hx; show q ≠ g; omega⟩
    · have := hhead.set (i := 1) (by simp) (.slice (some ⟨q, 0, none⟩) (es.length + 1) c')
      rw [hl]
      exact this
    · rw [hl, ecs_append, ecs_cons, ecs_nil, List.append_nil]
      exact (hS.mono (G := fun k => F k ∨ w.heap.size ≤ k) (fun k hk => by rcases hk with h | h; exact .inr (by omega); exact .inr (by omega))).set_ne (p := ⟨g, 1, none⟩) (fun x hx => by cases hx; show q ≠ g; omega) _
  · exact ((hk12.of_nb).trans' hK (H := F) (fun _ _ h => h) (fun k hk h => by have := hbl k h; omega)).setCell (.inl hM.hb) _

set_option maxRecDepth 100000 in
set_option maxHeartbeats 1000000 in
theorem radd_any (F : Nat → Prop) (w : World) (g n : Nat) (es : List E) (id a b : Int) (hG : RGr F w g n es) (hF : ∀ k, F k → k < w.heap.size) (hn : n ≤ 40) (hl : es.length ≤ 120) :
    Calls Tryz.prog 30 #[.pointer (some ⟨g, 0, none⟩), .int .i64 id, .int .i64 a, .int .i64 b] w (RAddPost F w g n es id a b) := by
  obtain ⟨o, c, hM⟩ := hG
  have c0 := hM.head.cell (i := 0) rfl
  have c1 := hM.head.cell (i := 1) rfl
  have HM := Lib.hid hM
  clear hM
  by_cases hb : addBad n id a b
  · have hP : RAddPost F w g n es id a b (.returned (.int .i64 2)) w :=
      RAddPost.err ⟨o, c, HM.out⟩ (Keep.refl Nb w) (by unfold addErr; rw [if_pos hb]) (by unfold raddEs; rw [if_pos (.inl hb)])
    have HP := Lib.hid hP
    unfold addBad at hb
    by_cases h1 : 0 ≤ id ∧ id ≤ 1099511627776
    · by_cases h2 : 0 ≤ a ∧ a ≤ (n : Int) - 1
      · have h3 : ¬ (0 ≤ b ∧ b ≤ (n : Int) - 1) := by omega
        clear hb hP
        go_enter Tryz.func30, Tryz.ntmps30
        go_wp2_with fail
        refine (in_any _ _ _ true (by simp [h1]) _).mono ?_
        rintro e w1 ⟨rfl, rfl⟩
        go_wp2_with fail
        refine (in_any _ _ _ true (by simp [h2]) _).mono ?_
        rintro e w1 ⟨rfl, rfl⟩
        go_wp2_with fail
        refine (in_any _ _ _ false (by simp; omega) _).mono ?_
        rintro e w1 ⟨rfl, rfl⟩
        go_wp2_with fail
        go_ret
        exact HP.out
      · clear hb hP
        go_enter Tryz.func30, Tryz.ntmps30
        go_wp2_with fail
        refine (in_any _ _ _ true (by simp [h1]) _).mono ?_
        rintro e w1 ⟨rfl, rfl⟩
        go_wp2_with fail
        refine (in_any _ _ _ false (by simp; omega) _).mono ?_
        rintro e w1 ⟨rfl, rfl⟩
        go_wp2_with fail
        go_ret
        exact HP.out
    · clear hb hP
      go_enter Tryz.func30, Tryz.ntmps30
      go_wp2_with fail
      refine (in_any _ _ _ false (by simp; omega) _).mono ?_
      rintro e w1 ⟨rfl, rfl⟩
      go_wp2_with fail
      go_ret
      exact HP.out
  · have HB := Lib.hid hb
    have h1 : 0 ≤ id ∧ id ≤ 1099511627776 := by unfold addBad at hb; omega
    have h2 : 0 ≤ a ∧ a ≤ (n : Int) - 1 := by unfold addBad at hb; omega
    have h3 : 0 ≤ b ∧ b ≤ (n : Int) - 1 := by unfold addBad at hb; omega
    have I1 := Lib.hid h1
    have I2 := Lib.hid h2
    have I3 := Lib.hid h3
    clear hb
    by_cases hab : a = b
    · have hP : RAddPost F w g n es id a b (.returned (.int .i64 1)) w :=
        RAddPost.err ⟨o, c, HM.out⟩ (Keep.refl Nb w) (by unfold addErr; rw [if_neg HB.out, if_pos hab]) (by unfold raddEs; rw [if_pos (.inr (.inl hab))])
      have HP := Lib.hid hP
      have hab2 : (a == b) = true := by simpa using hab
      clear hP
      subst hab
      go_enter Tryz.func30, Tryz.ntmps30
      go_wp2_with fail
      refine (in_any _ _ _ true (by simp [I1.out]) _).mono ?_
      rintro e w1 ⟨rfl, rfl⟩
      go_wp2_with fail
      refine (in_any _ _ _ true (by simp [I2.out]) _).mono ?_
      rintro e w1 ⟨rfl, rfl⟩
      go_wp2_with fail
      refine (in_any _ _ _ true (by simp [I3.out]) _).mono ?_
      rintro e w1 ⟨rfl, rfl⟩
      go_wp2_with fail
      go_ret
      exact HP.out
    · have hab2 : (a == b) = false := by simpa using hab
      have HAB := Lib.hid hab
      clear hab
      go_enter Tryz.func30, Tryz.ntmps30
      go_wp2_with fail
      refine (in_any _ _ _ true (by simp [I1.out]) _).mono ?_
      rintro e w1 ⟨rfl, rfl⟩
      go_wp2_with fail
      refine (in_any _ _ _ true (by simp [I2.out]) _).mono ?_
      rintro e w1 ⟨rfl, rfl⟩
      go_wp2_with fail
      refine (in_any _ _ _ true (by simp [I3.out]) _).mono ?_
      rintro e w1 ⟨rfl, rfl⟩
      go_wp2_with fail
      go_loopg [42] es.length (fun kx s wr => ∃ i : Nat, s = .int .i64 i ∧ i ≤ es.length ∧ es.length - i ≤ kx ∧ Hid ((∀ k e, k < i → es[k]? = some e → (e.id : Int) ≠ id) ∧ Keep Nb w wr))
      case atStart => exact ⟨0, rfl, Nat.zero_le _, by omega, Lib.hid ⟨fun k e hk => absurd hk (by omega), Keep.refl _ _⟩⟩
      case round =>
        obtain ⟨i, rfl, hi, hg, HR⟩ := hrel
        by_cases hlt : i < es.length
        · obtain ⟨g', rfl, _, hnc, hrow⟩ := HM.out.s.pos (by omega)
          have hy := List.getElem?_eq_getElem hlt
          generalize es[i]'hlt = e at hy
          have hEr := hrow.edges.keep HR.out.2 (fun e => e)
          have d1 := hEr.id _ _ hy
          have d2 := hEr.a _ _ hy
          have d3 := hEr.b _ _ hy
          have HY := Lib.hid hy
          clear hy hrow hEr
          by_cases hid : (e.id : Int) = id
          · have hid2 : ((e.id : Int) == id) = true := by simpa using hid
            have HP : Hid (RAddPost F w g n es id a b (.returned (.int .i64 9)) (wr.alloc (.cells #[.int .i64 e.id, .int .i64 e.a, .int .i64 e.b] 42))) := Lib.hid (by
              have ht := hasId_true HY.out hid
              exact RAddPost.err ⟨_, c, HM.out⟩ (HR.out.2.trans ((Keep.refl Nb wr).alloc _)) (by unfold addErr; rw [if_neg HB.out, if_neg HAB.out, if_pos ht]) (by unfold raddEs; rw [if_pos (.inr (.inr (.inl ht)))]))
            clear hid
            go_wp2_with fail
            go_ret
            exact HP.out
          · have hid2 : ((e.id : Int) == id) = false := by simpa using hid
            have HN : Hid ((∀ k e, k < i + 1 → es[k]? = some e → (e.id : Int) ≠ id) ∧ Keep Nb w (wr.alloc (.cells #[.int .i64 e.id, .int .i64 e.a, .int .i64 e.b] 42))) := Lib.hid ⟨fun k f hk hf => by
              by_cases hki : k = i
              · subst hki; rw [HY.out] at hf; cases hf; exact hid
              · exact HR.out.1 k f (by omega) hf, HR.out.2.trans ((Keep.refl Nb wr).alloc _)⟩
            clear hid
            go_wp2_with fail
            go_roundg (es.length - (i + 1))
            case measure => omega
            case rel => exact ⟨i + 1, rfl, by omega, Nat.le_refl _, HN⟩
        · obtain rfl : i = es.length := by omega
          have hno := hasId_false HR.out.1
          have HNO := Lib.hid hno
          have c1' := HR.out.2.cell c1 (fun e => e)
          clear hno
          by_cases hfull : 120 ≤ es.length
          · have HP : Hid (RAddPost F w g n es id a b (.returned (.int .i64 12)) wr) := Lib.hid
              (RAddPost.err ⟨_, c, HM.out⟩ HR.out.2 (by unfold addErr; rw [if_neg HB.out, if_neg HAB.out, HNO.out, if_neg (by simp), if_pos hfull]) (by unfold raddEs; rw [if_pos (.inr (.inr (.inr hfull)))]))
            go_wp2_with fail
            go_ret
            exact HP.out
          · obtain ⟨x, y, hxy⟩ : ∃ x y : Int, (x = min a b ∧ y = max a b) := ⟨_, _, rfl, rfl⟩
            have hxyc : (b < a ∧ x = b ∧ y = a) ∨ (¬ b < a ∧ x = a ∧ y = b) := by omega
            have hcells : [Value.int .i64 id, .int .i64 x, .int .i64 y] = ecells (mkE id a b) := by
              have e1 : (id.toNat : Int) = id := by omega
              have e2 : ((min a b).toNat : Int) = x := by omega
              have e3 : ((max a b).toNat : Int) = y := by omega
              simp [ecells, mkE, e1, e2, e3]
            obtain ⟨q1, c1q, wb, r1, S1, K1⟩ := run_app_copy (P := Tryz.prog) (w := wr) 38 38 42 und_edges elem_edge (by rfl) (by omega) (HM.out.s.keep HR.out.2 (fun _ _ e => e)) (ecs_one es) (by omega) (by omega)
            obtain ⟨q2, c2q, wd, r2, S2, K2, Q2⟩ := run_appN (P := Tryz.prog) 38 38 42 und_edges elem_edge (by rfl) (by omega) S1 [Value.int .i64 id, .int .i64 x, .int .i64 y] 1 (by simp [Value.oneCell']) rfl (by omega) (by omega) (by omega)
            have hlt : g < wr.heap.size := World.block_lt_of_cell? wr _ c1'
            have hD := radd_done HM.out HR.out.2 K1 (S1.foot _ rfl) (by rw [hcells] at S2; exact S2) K2 (a := a) (b := b) (id := id) (by unfold raddEs; rw [if_neg]; rintro (h | h | h | h); exact HB.out h; exact HAB.out h; rw [HNO.out] at h; cases h; exact hfull h) (by unfold addErr; rw [if_neg HB.out, if_neg HAB.out, HNO.out, if_neg (by simp), if_neg hfull])
            obtain ⟨hD1, hg1, hg2⟩ := hD
            have HD := Lib.hid hD1
            have R1 := Lib.hid r1
            have R2 := Lib.hid r2
            clear r1 r2 S1 K1 S2 K2 Q2 hD1 hcells hxy
            rcases hxyc with ⟨hlt2, rfl, rfl⟩ | ⟨hlt2, rfl, rfl⟩
            all_goals
              go_wp2_with (first | (at_builtin; refine wpList_app (o := ⟨some 68, _, _, _, _, _⟩) rfl _ _ _ rfl rfl rfl R1.out ?_) | (at_builtin; refine wpList_app (o := ⟨some 74, _, _, _, _, _⟩) rfl _ _ _ rfl rfl rfl R2.out ?_))
              go_ret
              exact HD.out

end Go.Proofs.YtkpoobnldgfapabGreatDoor

/- isthmusref: Without. -/
namespace Go.Proofs.YtkpoobnldgfapabGreatDoor
open Go.RowKit Pl

set_option maxRecDepth 100000 in
theorem has_any (F : Nat → Prop) (w : World) (o : Option Addr) (c : Nat) (l : List Nat) (x : Nat) (r : Bool) (hr : r = decide (x ∈ l)) (hS : Sl F w 3 1 o l.length c (ints l)) (hl : l.length ≤ 1000) :
    Calls Tryz.prog 141 #[.slice o l.length c, .int .i64 x] w fun e w' => e = .returned (.bool r) ∧ w = w' := by
  have HS := Lib.hid hS
  have HR := Lib.hid hr
  clear hS hr
  go_enter Tryz.func141, Tryz.ntmps141
  go_wp2_with fail
  go_loopg [9] l.length (fun kx s wr => ∃ i : Nat, s = .int .i64 i ∧ i ≤ l.length ∧ l.length - i ≤ kx ∧ w = wr ∧ Hid (∀ (k y : Nat), k < i → l[k]? = some y → y ≠ x))
  case atStart => exact ⟨0, rfl, Nat.zero_le _, by omega, rfl, Lib.hid fun k y hk => absurd hk (by omega)⟩
  case round =>
    obtain ⟨i, rfl, hi, hg, rfl, HI⟩ := hrel
    by_cases hlt : i < l.length
    · obtain ⟨g, rfl, _, hnc, hrow⟩ := HS.out.pos (by omega)
      have hy := List.getElem?_eq_getElem hlt
      generalize l[i]'hlt = y at hy
      have d1 := hrow.cell (ints_get hy)
      have HY := Lib.hid hy
      clear hy hrow
      by_cases e : x = y
      · have e2 : ((x : Int) == (y : Int)) = true := by simp; omega
        have hr2 : r = true := by rw [HR.out, decide_eq_true_eq, e]; exact List.mem_of_getElem? HY.out
        clear e HR
        subst hr2
        go_wp2_with fail
        go_ret
        exact ⟨rfl, rfl⟩
      · have e2 : ((x : Int) == (y : Int)) = false := by simp; omega
        have HN : Hid (∀ (k y : Nat), k < i + 1 → l[k]? = some y → y ≠ x) := Lib.hid fun k z hk hz => by
          by_cases hki : k = i
          · subst hki; rw [HY.out] at hz; cases hz; exact fun h => e h.symm
          · exact HI.out k z (by omega) hz
        clear e
        go_wp2_with fail
        go_roundg (l.length - (i + 1))
        case measure => omega
        case rel => exact ⟨i + 1, rfl, by omega, Nat.le_refl _, rfl, HN⟩
    · have hr2 : r = false := by
        rw [HR.out, decide_eq_false_iff_not]
        intro hm
        obtain ⟨k, hk⟩ := List.mem_iff_getElem?.1 hm
        exact HI.out k x (by have := (List.getElem?_eq_some_iff.1 hk).1; omega) hk rfl
      clear HR
      subst hr2
      go_wp2_with fail
      go_ret
      exact ⟨rfl, rfl⟩

end Go.Proofs.YtkpoobnldgfapabGreatDoor

/- isthmusref: Without, the walk. -/
namespace Go.Proofs.YtkpoobnldgfapabGreatDoor
open Go.RowKit Pl

def RWRel (w : World) (n : Nat) (ed nd : List Nat) (es : List E) (i : Nat) (q : Nat) (wr : World) : Prop :=
  q = w.heap.size ∧ RGr (fun k => w.heap.size ≤ k) wr q n (withoutEs ed nd (es.take i)) ∧ Keep Nb w wr

def RWithoutPost (w : World) (n : Nat) (ed nd : List Nat) (es : List E) (e : Ending) (w' : World) : Prop :=
  e = .returned (.pointer (some ⟨w.heap.size, 0, none⟩)) ∧ RGr (fun k => w.heap.size ≤ k) w' w.heap.size n (withoutEs ed nd es) ∧ Keep Nb w w'

/-- A round that takes none. -/
theorem RWRel.skip {w wr w2 : World} {n : Nat} {ed nd : List Nat} {es : List E} {i q : Nat} {e : E} (h : RWRel w n ed nd es i q wr) (he : es[i]? = some e) (hk : keeps ed nd e = false) (k : Keep Nb wr w2) : RWRel w n ed nd es (i + 1) q w2 := by
  obtain ⟨h1, h2, h3⟩ := h
  refine ⟨h1, ?_, h3.trans k⟩
  rw [withoutEs_succ he, hk]
  simp only [Bool.false_eq_true, if_false, List.append_nil]
  exact h2.keep k (fun _ _ h => h)

/-- A round that takes one. -/
theorem RWRel.take {w wr w2 w3 : World} {n : Nat} {ed nd : List Nat} {es : List E} {i : Nat} {e : E} {o : Option Addr} {c : Nat} (hF : Keep Nb w wr) (hM : RGrMem (fun k => w.heap.size ≤ k) wr w.heap.size n (withoutEs ed nd (es.take i)) o c) (he : es[i]? = some e) (hk : keeps ed nd e = true)
    (k : Keep Nb wr w2) {g c' m : Nat} (hm : m = (withoutEs ed nd (es.take i)).length) (hS : Sl (fun k => w.heap.size ≤ k ∨ k = w2.heap.size + 1) w3 42 3 (some ⟨g, 0, none⟩) (m + 1) c' (ecs (withoutEs ed nd (es.take i)) ++ ecells e)) (hk3 : Keep (Bl o) w2 w3) (hg : o = some ⟨g, 0, none⟩ ∨ g = w2.heap.size + 1) :
    RWRel w n ed nd es (i + 1) w.heap.size (w3.setCell ⟨w.heap.size, 1, none⟩ (.slice (some ⟨g, 0, none⟩) (m + 1) c')) := by
  have hsz := k.size
  have hF1 := hF.size
  have hlt := hM.head.lt
  have hbl : ∀ j, Bl o j → w.heap.size ≤ j ∧ j ≠ w.heap.size := by
    rintro j ⟨x, hx, rfl⟩
    exact ⟨hM.s.foot x hx, hM.d x hx⟩
  have hgq : g ≠ w.heap.size := by
    rcases hg with h | h
    · exact hM.d _ h
    · omega
  have hhead := (hM.head.keep k (fun h => h)).keep hk3 (fun h => (hbl _ h).2 rfl)
  have hes : withoutEs ed nd (es.take (i + 1)) = withoutEs ed nd (es.take i) ++ [e] := by rw [withoutEs_succ he, hk]; rfl
  have hlen : (withoutEs ed nd (es.take (i + 1))).length = m + 1 := by rw [hes, List.length_append, ← hm]; rfl
  refine ⟨rfl, ⟨some ⟨g, 0, none⟩, c', ?_, ?_, ?_, ?_⟩, ?_⟩
  · have := hhead.set (i := 1) (by simp) (.slice (some ⟨g, 0, none⟩) (m + 1) c')
    rw [hlen]
    exact this
  · exact Nat.le_refl _
  · rw [hlen, hes, ecs_append, ecs_cons, ecs_nil, List.append_nil]
    exact (hS.mono (G := fun k => w.heap.size ≤ k) (fun j hj => by rcases hj with h | h; exact h; omega)).set_ne (p := ⟨w.heap.size, 1, none⟩) (fun x hx => by cases hx; exact hgq) _
  · intro x hx; cases hx; exact hgq
  · exact ((hF.trans k).trans' hk3 (H := Nb) (fun _ _ h => h) (fun j hj h => by have := (hbl j h).1; omega)).setCell (.inr (Nat.le_refl _)) _

set_option maxRecDepth 100000 in
set_option maxHeartbeats 1000000 in
theorem rwithout_any (F Fe Fn : Nat → Prop) (w : World) (b n : Nat) (es : List E) (oe on : Option Addr) (ce cn : Nat) (ed nd : List Nat) (hG : RGr F w b n es) (hn : es.length ≤ 1000)
    (hE : Sl Fe w 3 1 oe ed.length ce (ints ed)) (hN : Sl Fn w 3 1 on nd.length cn (ints nd)) (he : ed.length ≤ 1000) (hnl : nd.length ≤ 1000) :
    Calls Tryz.prog 79 #[.pointer (some ⟨b, 0, none⟩), .slice oe ed.length ce, .slice on nd.length cn] w (RWithoutPost w n ed nd es) := by
  obtain ⟨o, c, hM⟩ := hG
  have c0 := hM.head.cell (i := 0) rfl
  have c1 := hM.head.cell (i := 1) rfl
  have hbw := hM.head.lt
  have HM := Lib.hid hM
  have HE := Lib.hid hE
  have HN := Lib.hid hN
  have H0 : Hid (RWRel w n ed nd es 0 w.heap.size (w.alloc (.cells #[.int .i64 n, .slice none 0 0] 56))) :=
    Lib.hid ⟨rfl, ⟨none, 0, Row.new w #[.int .i64 n, .slice none 0 0] 56, Nat.le_refl _, (Sl.nil _ w 42 3).alloc _, fun _ h => by cases h⟩, (Keep.refl Nb w).alloc _⟩
  clear hM hE hN
  go_enter Tryz.func79, Tryz.ntmps79
  go_wp2
  go_loopg [22] es.length (fun kx s wr => ∃ i : Nat, s = .int .i64 i ∧ i ≤ es.length ∧ es.length - i ≤ kx ∧ Hid (RWRel w n ed nd es i w.heap.size wr))
  case atStart => exact ⟨0, rfl, Nat.zero_le _, by omega, H0⟩
  case round =>
    clear H0
    obtain ⟨i, rfl, hi, hg, HR⟩ := hrel
    by_cases hlt : i < es.length
    · obtain ⟨g, rfl, _, hnc, hrow⟩ := HM.out.s.pos (by omega)
      have hy := List.getElem?_eq_getElem hlt
      generalize es[i]'hlt = e at hy
      have hEr := hrow.edges.keep HR.out.2.2 id
      have d1 := hEr.id _ _ hy
      have d2 := hEr.a _ _ hy
      have d3 := hEr.b _ _ hy
      have HY := Lib.hid hy
      have HE1 := Lib.hid ((HE.out.keep HR.out.2.2 (fun _ _ h => h)).alloc (.cells #[.int .i64 e.id, .int .i64 e.a, .int .i64 e.b] 42))
      have HN1 := Lib.hid ((HN.out.keep HR.out.2.2 (fun _ _ h => h)).alloc (.cells #[.int .i64 e.id, .int .i64 e.a, .int .i64 e.b] 42))
      have HK := Lib.hid ((Keep.refl Nb wr).alloc (.cells #[.int .i64 e.id, .int .i64 e.a, .int .i64 e.b] 42))
      clear hy hrow hEr
      by_cases m1 : e.id ∈ ed
      · go_wp2_with fail
        refine (has_any Fe _ oe ce ed e.id true (decide_eq_true m1).symm HE1.out he).mono ?_
        rintro e1 w1 ⟨rfl, rfl⟩
        go_wp2
        go_roundg (es.length - (i + 1))
        case measure => omega
        case rel => exact ⟨i + 1, rfl, by omega, Nat.le_refl _, Lib.hid (HR.out.skip HY.out (by simp [keeps, m1]) HK.out)⟩
      · by_cases m2 : e.a ∈ nd
        · go_wp2_with fail
          refine (has_any Fe _ oe ce ed e.id false (decide_eq_false m1).symm HE1.out he).mono ?_
          rintro e1 w1 ⟨rfl, rfl⟩
          go_wp2_with fail
          refine (has_any Fn _ on cn nd e.a true (decide_eq_true m2).symm HN1.out hnl).mono ?_
          rintro e1 w1 ⟨rfl, rfl⟩
          go_wp2
          go_roundg (es.length - (i + 1))
          case measure => omega
          case rel => exact ⟨i + 1, rfl, by omega, Nat.le_refl _, Lib.hid (HR.out.skip HY.out (by simp [keeps, m2]) HK.out)⟩
        · by_cases m3 : e.b ∈ nd
          · go_wp2_with fail
            refine (has_any Fe _ oe ce ed e.id false (decide_eq_false m1).symm HE1.out he).mono ?_
            rintro e1 w1 ⟨rfl, rfl⟩
            go_wp2_with fail
            refine (has_any Fn _ on cn nd e.a false (decide_eq_false m2).symm HN1.out hnl).mono ?_
            rintro e1 w1 ⟨rfl, rfl⟩
            go_wp2_with fail
            refine (has_any Fn _ on cn nd e.b true (decide_eq_true m3).symm HN1.out hnl).mono ?_
            rintro e1 w1 ⟨rfl, rfl⟩
            go_wp2
            go_roundg (es.length - (i + 1))
            case measure => omega
            case rel => exact ⟨i + 1, rfl, by omega, Nat.le_refl _, Lib.hid (HR.out.skip HY.out (by simp [keeps, m3]) HK.out)⟩
          · obtain ⟨_, ⟨o2, c2, hM2⟩, hkw⟩ := HR.out
            have hle := withoutEs_len ed nd (es.take i)
            rw [List.length_take] at hle
            have hM3 := (hM2.alloc (.cells #[.int .i64 e.id, .int .i64 e.a, .int .i64 e.b] 42)).drew
            obtain ⟨gq, c', w3, h1, h2, h3, h4⟩ := run_appN (P := Tryz.prog) 38 38 42 und_edges elem_edge (by rfl) (by omega) hM3.s (ecells e) 1 (fun u hu => ecs_one [e] u (by simpa [ecs] using hu)) rfl (by omega) (by omega) (by omega)
            have hsz2 : (wr.alloc (.cells #[.int .i64 e.id, .int .i64 e.a, .int .i64 e.b] 42)).drew.heap.size = wr.heap.size + 1 := by simp
            have hrow3 := hM3.head.keep h3 (fun h => by obtain ⟨x, hx, hxg⟩ := h; exact hM3.d x hx hxg)
            have x1 := hM2.head.cell (i := 1) rfl
            have x2 := hrow3.cell (i := 1) rfl
            have x3 := hrow3.frozen 1 none
            have x4 := hM2.head.lt
            generalize hm : (withoutEs ed nd (es.take i)).length = m at *
            have HT := Lib.hid (RWRel.take hkw hM2 HY.out (by simp [keeps, m1, m2, m3]) (HK.out.drew) hm.symm h2 h3 h4)
            rw [hsz2] at h1
            have H1 := Lib.hid h1
            have mixed : (Tryz.prog).follows Departure.mixedOrders = true := by kernel_rfl
            clear h1 h2 h3 h4 hM2 hM3 hrow3 hkw hsz2 hm
            go_wp2_with fail
            refine (has_any Fe _ oe ce ed e.id false (decide_eq_false m1).symm HE1.out he).mono ?_
            rintro e1 w1 ⟨rfl, rfl⟩
            go_wp2_with fail
            refine (has_any Fn _ on cn nd e.a false (decide_eq_false m2).symm HN1.out hnl).mono ?_
            rintro e1 w1 ⟨rfl, rfl⟩
            go_wp2_with fail
            refine (has_any Fn _ on cn nd e.b false (decide_eq_false m3).symm HN1.out hnl).mono ?_
            rintro e1 w1 ⟨rfl, rfl⟩
            go_wp2_with fail
            go_region_law_o (refine step_app_run rfl _ _ 38 38 rfl (.slice o2 m c2) (.slice (some ⟨wr.heap.size + 1, 0, none⟩) 1 1) (by simp [Act.eval, Act.put]) (by simp [Act.eval, Act.put]) H1.out ?_)
            all_goals
              (try go_wp2)
              go_roundg (es.length - (i + 1))
              case measure => omega
              case rel => exact ⟨i + 1, rfl, by omega, Nat.le_refl _, HT⟩
    · obtain rfl : i = es.length := by omega
      have hP : RWithoutPost w n ed nd es (.returned (.pointer (some ⟨w.heap.size, 0, none⟩))) wr := by
        obtain ⟨_, h2, h3⟩ := HR.out
        rw [List.take_length] at h2
        exact ⟨rfl, h2, h3⟩
      have HP := Lib.hid hP
      clear hP
      go_wp2
      go_ret
      exact HP.out

end Go.Proofs.YtkpoobnldgfapabGreatDoor

/- isthmusref: Labels, the walk. -/
namespace Go.Proofs.YtkpoobnldgfapabGreatDoor
open Go.RowKit Pl

/-- The row of labels. -/
def LRow (w : World) (q n : Nat) (f : Nat → Nat) (wr : World) : Prop :=
  Sl (fun k => w.heap.size ≤ k) wr 3 1 (some ⟨q, 0, none⟩) n n (fints n f) ∧ Keep Nb w wr

theorem LRow.set {w wr : World} {q n : Nat} {f : Nat → Nat} (h : LRow w q n f wr) {i : Nat} (hi : i < n) (v : Nat) : LRow w q n (upd f i v) (wr.setCell ⟨q, i, none⟩ (.int .i64 v)) := by
  refine ⟨?_, h.2.setCell (.inr (by have := h.1.foot _ rfl; exact this)) _⟩
  rw [← fints_set]
  exact h.1.set rfl hi _

theorem LRow.cell {w wr : World} {q n : Nat} {f : Nat → Nat} (h : LRow w q n f wr) {i : Nat} (hi : i < n) : wr.cell? ⟨q, i, none⟩ = some (.int .i64 (f i : Nat)) ∧ (∀ s, wr.frozen? ⟨q, i, s⟩ = false) ∧ q < wr.heap.size := by
  obtain ⟨g, e, _, _, hrow⟩ := h.1.pos (by omega)
  obtain rfl : q = g := by simpa using e
  exact ⟨hrow.cell (fints_get f hi), fun s => hrow.frozen i s, hrow.lt⟩

theorem LRow.keep {w wr w' : World} {q n : Nat} {f : Nat → Nat} (h : LRow w q n f wr) (k : Keep Nb wr w') : LRow w q n f w' := ⟨h.1.keep k (fun _ _ e => e), h.2.trans k⟩

theorem fints_congr {n : Nat} {f g : Nat → Nat} (h : ∀ x, x < n → f x = g x) : fints n f = fints n g := by
  unfold fints; congr 1; exact List.map_congr_left fun x hx => h x (List.mem_range.1 hx)

theorem LRow.congr {w wr : World} {q n : Nat} {f g : Nat → Nat} (h : LRow w q n f wr) (e : ∀ x, x < n → f x = g x) : LRow w q n g wr := ⟨by rw [← fints_congr e]; exact h.1, h.2⟩

/-- Both labels are told, in either order. -/
theorem LIn.told {w wr : World} {q n m : Nat} {es : List E} {l l0 : Nat → Nat} {e : E} (h1 : LRow w q n l wr) (h2 : Tell n es l) (h3 : tot n l ≤ tot n l0) (he : e ∈ es) (ha : e.a < n) (hb : e.b < n) (hm : m = min (l e.a) (l e.b)) (hne : l e.a ≠ l e.b) :
    (∃ l, LRow w q n l ((wr.setCell ⟨q, e.a, none⟩ (.int .i64 m)).setCell ⟨q, e.b, none⟩ (.int .i64 m)) ∧ Tell n es l ∧ tot n l < tot n l0) ∧
    (∃ l, LRow w q n l ((wr.setCell ⟨q, e.b, none⟩ (.int .i64 m)).setCell ⟨q, e.a, none⟩ (.int .i64 m)) ∧ Tell n es l ∧ tot n l < tot n l0) := by
  have hlt : tot n (Pl.told l e.a e.b) < tot n l := told_lt ha hb (by omega)
  have hee : e.a ≠ e.b := fun e => hne (by rw [e])
  subst hm
  refine ⟨⟨_, (h1.set ha _).set hb _, h2.told he ha hb, by show tot n (Pl.told l e.a e.b) < _; omega⟩, ⟨Pl.told l e.a e.b, ((h1.set hb (min (l e.a) (l e.b))).set ha (min (l e.a) (l e.b))).congr fun x _ => ?_, h2.told he ha hb, by omega⟩⟩
  unfold Pl.told upd
  by_cases e1 : x = e.a
  · by_cases e2 : x = e.b
    · exact absurd (e1.symm.trans e2) hee
    · simp [e1]
  · by_cases e2 : x = e.b <;> simp [e1, e2]

/-- The inner rounds: what was told. -/
def LIn (w : World) (q n : Nat) (es : List E) (l0 : Nat → Nat) (i : Nat) (more : Bool) (wr : World) : Prop :=
  ∃ l, LRow w q n l wr ∧ Tell n es l ∧ tot n l ≤ tot n l0 ∧ (more = true → tot n l < tot n l0) ∧ (more = false → l = l0 ∧ ∀ k e, k < i → es[k]? = some e → l0 e.a = l0 e.b)

def LOut (w : World) (q n : Nat) (es : List E) (more : Bool) (kx : Nat) (wr : World) : Prop :=
  ∃ l, LRow w q n l wr ∧ Tell n es l ∧ (more = true → tot n l + 1 ≤ kx) ∧ (more = false → ∀ e, e ∈ es → l e.a = l e.b)

def RLabelsPost (w : World) (n : Nat) (es : List E) (e : Ending) (w' : World) : Prop :=
  ∃ q, e = .returned (.slice (some ⟨q, 0, none⟩) n n) ∧ Sl (fun k => w.heap.size ≤ k) w' 3 1 (some ⟨q, 0, none⟩) n n (fints n (labG es)) ∧ Keep Nb w w'

set_option maxRecDepth 100000 in
set_option maxHeartbeats 1000000 in
theorem rlabels_any (F : Nat → Prop) (w : World) (b n : Nat) (es : List E) (hG : RGr F w b n es) (hn : n ≤ 40) (hl : es.length ≤ 1000) (ho : Over n es) :
    Calls Tryz.prog 78 #[.pointer (some ⟨b, 0, none⟩)] w (RLabelsPost w n es) := by
  obtain ⟨o, c, hM⟩ := hG
  have c0 := hM.head.cell (i := 0) rfl
  have c1 := hM.head.cell (i := 1) rfl
  obtain ⟨w1, hmk, hS1, hk1⟩ := run_make1 (P := Tryz.prog) w 33 3 (by kernel_rfl) elem_int rfl n (by omega) (by omega)
  have HM := Lib.hid hM
  have HO := Lib.hid ho
  have C1 := Lib.hid c1
  have HL0 : Hid (LRow w w.heap.size n (fun x => if x < 0 then x else 0) w1) := Lib.hid ⟨by
    have : fints n (fun x => if x < 0 then x else 0) = List.replicate n (.int .i64 0) := by
      apply List.ext_getElem?
      intro i
      by_cases hi : i < n
      · rw [fints_get _ hi]; simp [hi]
      · rw [List.getElem?_eq_none (by simp [fints]; omega), List.getElem?_eq_none (by simp; omega)]
    rw [this]; exact hS1, hk1⟩
  clear hM ho hS1 hk1 c1
  go_enter Tryz.func78, Tryz.ntmps78
  go_wp2_with fail
  go_loopg [16] n (fun kx s wr => ∃ i : Nat, s = .int .i64 i ∧ i ≤ n ∧ n - i ≤ kx ∧ Hid (LRow w w.heap.size n (fun x => if x < i then x else 0) wr))
  case atStart => exact ⟨0, rfl, Nat.zero_le _, by omega, HL0⟩
  case round =>
    clear HL0 hmk
    obtain ⟨i, rfl, hi, hg, HR⟩ := hrel
    by_cases hlt : i < n
    · obtain ⟨x1, x2, x3⟩ := HR.out.cell hlt
      have x2' := x2 none
      have HN : Hid (LRow w w.heap.size n (fun x => if x < i + 1 then x else 0) (wr.setCell ⟨w.heap.size, i, none⟩ (.int .i64 i))) := Lib.hid ((HR.out.set hlt i).congr fun x hx => by
        unfold upd
        simp only
        by_cases e : x = i
        · rw [if_pos e, if_pos (by omega), e]
        · rw [if_neg e]
          by_cases e2 : x < i
          · rw [if_pos e2, if_pos (by omega)]
          · rw [if_neg e2, if_neg (by omega)])
      clear x2
      go_wp2_with fail
      go_roundg (n - (i + 1))
      case measure => omega
      case rel => exact ⟨i + 1, rfl, by omega, Nat.le_refl _, HN⟩
    · obtain rfl : i = n := by omega
      have HLO : Hid (LOut w w.heap.size i es true (tot i (fun x => x) + 1) wr) := Lib.hid ⟨fun x => x, HR.out.congr (fun x hx => if_pos hx), Tell.start i es, fun _ => Nat.le_refl _, fun h => by cases h⟩
      clear HR
      go_wp2_with fail
      go_loopg [5] (tot i (fun x => x) + 1) (fun kx s wr => ∃ more : Bool, s = .bool more ∧ Hid (LOut w w.heap.size i es more kx wr))
      case atStart => exact ⟨true, rfl, HLO⟩
      case round =>
        clear HLO
        obtain ⟨more, rfl, HR⟩ := hrel
        cases more with
        | false =>
          have HP : Hid (RLabelsPost w i es (.returned (.slice (some ⟨w.heap.size, 0, none⟩) i i)) wr) := Lib.hid (by
            obtain ⟨l, h1, h2, _, h4⟩ := HR.out
            have h5 : ∀ x, x < i → l x = labG es x := labs_of_fix h2.le h2.con (fun e he => by
              obtain ⟨f, hf, rfl⟩ := List.mem_map.1 he
              exact h4 rfl f hf)
            exact ⟨_, rfl, by rw [← fints_congr h5]; exact h1.1, h1.2⟩)
          go_wp2_with fail
          go_ret
          exact HP.out
        | true =>
          obtain ⟨l0, hl0, ht0, hm0, _⟩ := HR.out
          have c1' := hl0.2.cell C1.out (fun e => e)
          have HI0 : Hid (LIn w w.heap.size i es l0 0 false wr) := Lib.hid ⟨l0, hl0, ht0, Nat.le_refl _, (fun h => by cases h), fun _ => ⟨rfl, fun k e hk => absurd hk (by omega)⟩⟩
          have HM0 := Lib.hid (hm0 rfl)
          obtain ⟨gk_, hgk⟩ : ∃ g, g = gk := ⟨_, rfl⟩
          rw [← hgk] at HM0
          clear hl0 ht0 hm0 HR
          go_wp2_with fail
          go_loopg [5, 30] es.length (fun kx s5 s30 wr => ∃ (j : Nat) (more : Bool), s5 = .bool more ∧ s30 = .int .i64 j ∧ j ≤ es.length ∧ es.length - j ≤ kx ∧ Hid (LIn w w.heap.size i es l0 j more wr))
          case atStart => exact ⟨0, false, rfl, rfl, Nat.zero_le _, by omega, HI0⟩
          case round =>
            clear HI0
            obtain ⟨j, more, rfl, rfl, hj, hgj, HR⟩ := hrel
            by_cases hjl : j < es.length
            · obtain ⟨l, hl1, hl2, hl3, hl4, hl5⟩ := HR.out
              obtain ⟨g, rfl, _, hnc, hrow⟩ := HM.out.s.pos (by omega)
              have hy := List.getElem?_eq_getElem hjl
              generalize es[j]'hjl = e at hy
              have hem := List.mem_of_getElem? hy
              obtain ⟨ha, hb⟩ := HO.out e hem
              have hEr := hrow.edges.keep hl1.2 (fun e => e)
              have d1 := hEr.id _ _ hy
              have d2 := hEr.a _ _ hy
              have d3 := hEr.b _ _ hy
              obtain ⟨x1, y1, q1⟩ := hl1.cell ha
              obtain ⟨x2, y2, _⟩ := hl1.cell hb
              have y1' := y1 none
              have y2' := y2 none
              have HW := Lib.hid hl1
              have LK := Lib.hid (hl1.keep ((Keep.refl Nb wr).alloc (.cells #[.int .i64 e.id, .int .i64 e.a, .int .i64 e.b] 42)))
              have H2 := Lib.hid hl2
              have H3 := Lib.hid hl3
              have H4 := Lib.hid hl4
              have H5 := Lib.hid hl5
              have HY := Lib.hid hy
              have HE := Lib.hid hem
              clear hl1 hl2 hl3 hl4 hl5 hy hem hEr hrow y1 y2 HR
              obtain ⟨x, hx⟩ : ∃ x, l e.a = x := ⟨_, rfl⟩
              obtain ⟨y, hyy⟩ : ∃ y, l e.b = y := ⟨_, rfl⟩
              rw [hx] at x1
              rw [hyy] at x2
              have HX := Lib.hid hx
              have HYY := Lib.hid hyy
              have HA := Lib.hid ha
              have HB2 := Lib.hid hb
              clear hx hyy
              by_cases heq : x = y
              · subst heq
                have hmin : min (x : Int) (x : Int) = (x : Int) := Int.min_self _
                have HN : Hid (LIn w w.heap.size i es l0 (j + 1) more (wr.alloc (.cells #[.int .i64 e.id, .int .i64 e.a, .int .i64 e.b] 42)).drew) := Lib.hid ⟨l, LK.out.keep (Keep.refl Nb _).drew, H2.out, H3.out, H4.out, fun hm => by
                  obtain ⟨g1, g2⟩ := H5.out hm
                  refine ⟨g1, fun k f hk hf => ?_⟩
                  by_cases e1 : k = j
                  · subst e1; rw [HY.out] at hf; cases hf; rw [← g1, HX.out, HYY.out]
                  · exact g2 k f (by omega) hf⟩
                skip
                go_wp2_with fail
                go_region
                go_wp2_with fail
                go_roundg (es.length - (j + 1))
                case measure => omega
                case rel => exact ⟨j + 1, more, rfl, rfl, by omega, Nat.le_refl _, HN⟩
              · obtain ⟨m, hm⟩ : ∃ m, m = min x y := ⟨_, rfl⟩
                have hmin : min (x : Int) (y : Int) = (m : Int) := by omega
                have hcs : (((x : Int) != (m : Int)) = true) ∨ (((x : Int) != (m : Int)) = false ∧ ((y : Int) != (m : Int)) = true) := by
                  by_cases e1 : x = m
                  · right; exact ⟨by rw [e1]; simp, by simp; omega⟩
                  · left; simp; omega
                have HT := Lib.hid (LIn.told HW.out H2.out H3.out HE.out ha hb (m := m) (by rw [HX.out, HYY.out]; exact hm) (by rw [HX.out, HYY.out]; exact heq))
                have HT1 : Hid (LIn w w.heap.size i es l0 (j + 1) true ((((wr.setCell ⟨w.heap.size, e.a, none⟩ (.int .i64 m)).setCell ⟨w.heap.size, e.b, none⟩ (.int .i64 m)).alloc (.cells #[.int .i64 e.id, .int .i64 e.a, .int .i64 e.b] 42)).drew.drew)) :=
                  Lib.hid (let ⟨l', g1, g2, g3⟩ := HT.out.1; ⟨l', g1.keep (((Keep.refl Nb _).alloc _).drew.drew), g2, Nat.le_of_lt g3, fun _ => g3, fun h => by cases h⟩)
                have HT2 : Hid (LIn w w.heap.size i es l0 (j + 1) true ((((wr.setCell ⟨w.heap.size, e.b, none⟩ (.int .i64 m)).setCell ⟨w.heap.size, e.a, none⟩ (.int .i64 m)).alloc (.cells #[.int .i64 e.id, .int .i64 e.a, .int .i64 e.b] 42)).drew.drew)) :=
                  Lib.hid (let ⟨l', g1, g2, g3⟩ := HT.out.2; ⟨l', g1.keep (((Keep.refl Nb _).alloc _).drew.drew), g2, Nat.le_of_lt g3, fun _ => g3, fun h => by cases h⟩)
                have hee : ¬ e.a = e.b := fun h => heq (by rw [← HX.out, ← HYY.out, h])
                have hee2 : ¬ e.b = e.a := fun h => hee h.symm
                have l1 : ¬ w.heap.size = wr.heap.size := by omega
                have l2 : ¬ wr.heap.size = w.heap.size := by omega
                clear hm
                clear heq
                rcases hcs with h1 | ⟨h1, h2⟩
                all_goals
                  go_wp2_with fail
                  go_region
                  go_wp2_with fail
                  go_region
                  all_goals
                    go_wp2_with fail
                    go_roundg (es.length - (j + 1))
                    case measure => omega
                    case rel => exact ⟨j + 1, true, rfl, rfl, by omega, Nat.le_refl _, by first | exact HT1 | exact HT2⟩
            · obtain rfl : j = es.length := by omega
              have HN : Hid (LOut w w.heap.size i es more (gk_ - 1) wr) := Lib.hid (by
                obtain ⟨l, h1, h2, h3, h4, h5⟩ := HR.out
                have hm := HM0.out
                refine ⟨l, h1, h2, fun e => by have := h4 e; omega, fun e => ?_⟩
                obtain ⟨g1, g2⟩ := h5 e
                intro f hf
                obtain ⟨k, hk⟩ := List.mem_iff_getElem?.1 hf
                rw [g1]
                exact g2 k f (List.getElem?_eq_some_iff.1 hk).1 hk)
              go_wp2_with fail
              go_roundg (gk_ - 1)
              case measure => have := HM0.out; omega
              case rel => exact ⟨more, rfl, HN⟩

end Go.Proofs.YtkpoobnldgfapabGreatDoor
