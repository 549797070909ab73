/- isthmusref: Labels, the walk. -/
import Derived.Test.YtkpoobnldgfapabGreatDoorRGraph4
import Derived.Test.YtkpoobnldgfapabGreatDoorP3
import Derived.Test.YtkpoobnldgfapabGreatDoorA6
import Derived.Test.YtkpoobnldgfapabGreatDoorMake
import Derived.Deep.RegionHeld3
set_option linter.unusedVariables false
set_option linter.unusedSimpArgs false
namespace Go.Proofs.YtkpoobnldgfapabGreatDoor
open Go.RowKit Pl

/-- The row of labels. -/
def LRow (w : World) (q n : Nat) (f : Nat → Nat) (wr : World) : Prop :=
  Sl (fun k => w.heap.size ≤ k) wr 3 1 (some ⟨q, 0, none⟩) n n (fints n f) ∧ Keep Nb w wr

theorem LRow.set {w wr : World} {q n : Nat} {f : Nat → Nat} (h : LRow w q n f wr) {i : Nat} (hi : i < n) (v : Nat) : LRow w q n (upd f i v) (wr.setCell ⟨q, i, none⟩ (.int .i64 v)) := by
  refine ⟨?_, h.2.setCell (.inr (by have := h.1.foot _ rfl; exact this)) _⟩
  rw [← fints_set]
  exact h.1.set rfl hi _

theorem LRow.cell {w wr : World} {q n : Nat} {f : Nat → Nat} (h : LRow w q n f wr) {i : Nat} (hi : i < n) : wr.cell? ⟨q, i, none⟩ = some (.int .i64 (f i : Nat)) ∧ (∀ s, wr.frozen? ⟨q, i, s⟩ = false) ∧ q < wr.heap.size := by
  obtain ⟨g, e, _, _, hrow⟩ := h.1.pos (by omega)
  obtain rfl : q = g := by simpa using e
  exact ⟨hrow.cell (fints_get f hi), fun s => hrow.frozen i s, hrow.lt⟩

theorem LRow.keep {w wr w' : World} {q n : Nat} {f : Nat → Nat} (h : LRow w q n f wr) (k : Keep Nb wr w') : LRow w q n f w' := ⟨h.1.keep k (fun _ _ e => e), h.2.trans k⟩

theorem fints_congr {n : Nat} {f g : Nat → Nat} (h : ∀ x, x < n → f x = g x) : fints n f = fints n g := by
  unfold fints; congr 1; exact List.map_congr_left fun x hx => h x (List.mem_range.1 hx)

theorem LRow.congr {w wr : World} {q n : Nat} {f g : Nat → Nat} (h : LRow w q n f wr) (e : ∀ x, x < n → f x = g x) : LRow w q n g wr := ⟨by rw [← fints_congr e]; exact h.1, h.2⟩

/-- Both labels are told, in either order. -/
theorem LIn.told {w wr : World} {q n m : Nat} {es : List E} {l l0 : Nat → Nat} {e : E} (h1 : LRow w q n l wr) (h2 : Tell n es l) (h3 : tot n l ≤ tot n l0) (he : e ∈ es) (ha : e.a < n) (hb : e.b < n) (hm : m = min (l e.a) (l e.b)) (hne : l e.a ≠ l e.b) :
    (∃ l, LRow w q n l ((wr.setCell ⟨q, e.a, none⟩ (.int .i64 m)).setCell ⟨q, e.b, none⟩ (.int .i64 m)) ∧ Tell n es l ∧ tot n l < tot n l0) ∧
    (∃ l, LRow w q n l ((wr.setCell ⟨q, e.b, none⟩ (.int .i64 m)).setCell ⟨q, e.a, none⟩ (.int .i64 m)) ∧ Tell n es l ∧ tot n l < tot n l0) := by
  have hlt : tot n (Pl.told l e.a e.b) < tot n l := told_lt ha hb (by omega)
  have hee : e.a ≠ e.b := fun e => hne (by rw [e])
  subst hm
  refine ⟨⟨_, (h1.set ha _).set hb _, h2.told he ha hb, by show tot n (Pl.told l e.a e.b) < _; omega⟩, ⟨Pl.told l e.a e.b, ((h1.set hb (min (l e.a) (l e.b))).set ha (min (l e.a) (l e.b))).congr fun x _ => ?_, h2.told he ha hb, by omega⟩⟩
  unfold Pl.told upd
  by_cases e1 : x = e.a
  · by_cases e2 : x = e.b
    · exact absurd (e1.symm.trans e2) hee
    · simp [e1]
  · by_cases e2 : x = e.b <;> simp [e1, e2]

/-- The inner rounds: what was told. -/
def LIn (w : World) (q n : Nat) (es : List E) (l0 : Nat → Nat) (i : Nat) (more : Bool) (wr : World) : Prop :=
  ∃ l, LRow w q n l wr ∧ Tell n es l ∧ tot n l ≤ tot n l0 ∧ (more = true → tot n l < tot n l0) ∧ (more = false → l = l0 ∧ ∀ k e, k < i → es[k]? = some e → l0 e.a = l0 e.b)

def LOut (w : World) (q n : Nat) (es : List E) (more : Bool) (kx : Nat) (wr : World) : Prop :=
  ∃ l, LRow w q n l wr ∧ Tell n es l ∧ (more = true → tot n l + 1 ≤ kx) ∧ (more = false → ∀ e, e ∈ es → l e.a = l e.b)

def RLabelsPost (w : World) (n : Nat) (es : List E) (e : Ending) (w' : World) : Prop :=
  ∃ q, e = .returned (.slice (some ⟨q, 0, none⟩) n n) ∧ Sl (fun k => w.heap.size ≤ k) w' 3 1 (some ⟨q, 0, none⟩) n n (fints n (labG es)) ∧ Keep Nb w w'

set_option maxRecDepth 100000 in
set_option maxHeartbeats 1000000 in
theorem rlabels_any (F : Nat → Prop) (w : World) (b n : Nat) (es : List E) (hG : RGr F w b n es) (hn : n ≤ 40) (hl : es.length ≤ 1000) (ho : Over n es) :
    Calls Tryz.prog 78 #[.pointer (some ⟨b, 0, none⟩)] w (RLabelsPost w n es) := by
  obtain ⟨o, c, hM⟩ := hG
  have c0 := hM.head.cell (i := 0) rfl
  have c1 := hM.head.cell (i := 1) rfl
  obtain ⟨w1, hmk, hS1, hk1⟩ := run_make1 (P := Tryz.prog) w 33 3 (by kernel_rfl) elem_int rfl n (by omega) (by omega)
  have HM := Lib.hid hM
  have HO := Lib.hid ho
  have C1 := Lib.hid c1
  have HL0 : Hid (LRow w w.heap.size n (fun x => if x < 0 then x else 0) w1) := Lib.hid ⟨by
    have : fints n (fun x => if x < 0 then x else 0) = List.replicate n (.int .i64 0) := by
      apply List.ext_getElem?
      intro i
      by_cases hi : i < n
      · rw [fints_get _ hi]; simp [hi]
      · rw [List.getElem?_eq_none (by simp [fints]; omega), List.getElem?_eq_none (by simp; omega)]
    rw [this]; exact hS1, hk1⟩
  clear hM ho hS1 hk1 c1
  go_enter Tryz.func78, Tryz.ntmps78
  go_wp2_with fail
  go_loopg [16] n (fun kx s wr => ∃ i : Nat, s = .int .i64 i ∧ i ≤ n ∧ n - i ≤ kx ∧ Hid (LRow w w.heap.size n (fun x => if x < i then x else 0) wr))
  case atStart => exact ⟨0, rfl, Nat.zero_le _, by omega, HL0⟩
  case round =>
    clear HL0 hmk
    obtain ⟨i, rfl, hi, hg, HR⟩ := hrel
    by_cases hlt : i < n
    · obtain ⟨x1, x2, x3⟩ := HR.out.cell hlt
      have x2' := x2 none
      have HN : Hid (LRow w w.heap.size n (fun x => if x < i + 1 then x else 0) (wr.setCell ⟨w.heap.size, i, none⟩ (.int .i64 i))) := Lib.hid ((HR.out.set hlt i).congr fun x hx => by
        unfold upd
        simp only
        by_cases e : x = i
        · rw [if_pos e, if_pos (by omega), e]
        · rw [if_neg e]
          by_cases e2 : x < i
          · rw [if_pos e2, if_pos (by omega)]
          · rw [if_neg e2, if_neg (by omega)])
      clear x2
      go_wp2_with fail
      go_roundg (n - (i + 1))
      case measure => omega
      case rel => exact ⟨i + 1, rfl, by omega, Nat.le_refl _, HN⟩
    · obtain rfl : i = n := by omega
      have HLO : Hid (LOut w w.heap.size i es true (tot i (fun x => x) + 1) wr) := Lib.hid ⟨fun x => x, HR.out.congr (fun x hx => if_pos hx), Tell.start i es, fun _ => Nat.le_refl _, fun h => by cases h⟩
      clear HR
      go_wp2_with fail
      go_loopg [5] (tot i (fun x => x) + 1) (fun kx s wr => ∃ more : Bool, s = .bool more ∧ Hid (LOut w w.heap.size i es more kx wr))
      case atStart => exact ⟨true, rfl, HLO⟩
      case round =>
        clear HLO
        obtain ⟨more, rfl, HR⟩ := hrel
        cases more with
        | false =>
          have HP : Hid (RLabelsPost w i es (.returned (.slice (some ⟨w.heap.size, 0, none⟩) i i)) wr) := Lib.hid (by
            obtain ⟨l, h1, h2, _, h4⟩ := HR.out
            have h5 : ∀ x, x < i → l x = labG es x := labs_of_fix h2.le h2.con (fun e he => by
              obtain ⟨f, hf, rfl⟩ := List.mem_map.1 he
              exact h4 rfl f hf)
            exact ⟨_, rfl, by rw [← fints_congr h5]; exact h1.1, h1.2⟩)
          go_wp2_with fail
          go_ret
          exact HP.out
        | true =>
          obtain ⟨l0, hl0, ht0, hm0, _⟩ := HR.out
          have c1' := hl0.2.cell C1.out (fun e => e)
          have HI0 : Hid (LIn w w.heap.size i es l0 0 false wr) := Lib.hid ⟨l0, hl0, ht0, Nat.le_refl _, (fun h => by cases h), fun _ => ⟨rfl, fun k e hk => absurd hk (by omega)⟩⟩
          have HM0 := Lib.hid (hm0 rfl)
          obtain ⟨gk_, hgk⟩ : ∃ g, g = gk := ⟨_, rfl⟩
          rw [← hgk] at HM0
          clear hl0 ht0 hm0 HR
          go_wp2_with fail
          go_loopg [5, 30] es.length (fun kx s5 s30 wr => ∃ (j : Nat) (more : Bool), s5 = .bool more ∧ s30 = .int .i64 j ∧ j ≤ es.length ∧ es.length - j ≤ kx ∧ Hid (LIn w w.heap.size i es l0 j more wr))
          case atStart => exact ⟨0, false, rfl, rfl, Nat.zero_le _, by omega, HI0⟩
          case round =>
            clear HI0
            obtain ⟨j, more, rfl, rfl, hj, hgj, HR⟩ := hrel
            by_cases hjl : j < es.length
            · obtain ⟨l, hl1, hl2, hl3, hl4, hl5⟩ := HR.out
              obtain ⟨g, rfl, _, hnc, hrow⟩ := HM.out.s.pos (by omega)
              have hy := List.getElem?_eq_getElem hjl
              generalize es[j]'hjl = e at hy
              have hem := List.mem_of_getElem? hy
              obtain ⟨ha, hb⟩ := HO.out e hem
              have hEr := hrow.edges.keep hl1.2 (fun e => e)
              have d1 := hEr.id _ _ hy
              have d2 := hEr.a _ _ hy
              have d3 := hEr.b _ _ hy
              obtain ⟨x1, y1, q1⟩ := hl1.cell ha
              obtain ⟨x2, y2, _⟩ := hl1.cell hb
              have y1' := y1 none
              have y2' := y2 none
              have HW := Lib.hid hl1
              have LK := Lib.hid (hl1.keep ((Keep.refl Nb wr).alloc (.cells #[.int .i64 e.id, .int .i64 e.a, .int .i64 e.b] 42)))
              have H2 := Lib.hid hl2
              have H3 := Lib.hid hl3
              have H4 := Lib.hid hl4
              have H5 := Lib.hid hl5
              have HY := Lib.hid hy
              have HE := Lib.hid hem
              clear hl1 hl2 hl3 hl4 hl5 hy hem hEr hrow y1 y2 HR
              obtain ⟨x, hx⟩ : ∃ x, l e.a = x := ⟨_, rfl⟩
              obtain ⟨y, hyy⟩ : ∃ y, l e.b = y := ⟨_, rfl⟩
              rw [hx] at x1
              rw [hyy] at x2
              have HX := Lib.hid hx
              have HYY := Lib.hid hyy
              have HA := Lib.hid ha
              have HB2 := Lib.hid hb
              clear hx hyy
              by_cases heq : x = y
              · subst heq
                have hmin : min (x : Int) (x : Int) = (x : Int) := Int.min_self _
                have HN : Hid (LIn w w.heap.size i es l0 (j + 1) more (wr.alloc (.cells #[.int .i64 e.id, .int .i64 e.a, .int .i64 e.b] 42)).drew) := Lib.hid ⟨l, LK.out.keep (Keep.refl Nb _).drew, H2.out, H3.out, H4.out, fun hm => by
                  obtain ⟨g1, g2⟩ := H5.out hm
                  refine ⟨g1, fun k f hk hf => ?_⟩
                  by_cases e1 : k = j
                  · subst e1; rw [HY.out] at hf; cases hf; rw [← g1, HX.out, HYY.out]
                  · exact g2 k f (by omega) hf⟩
                skip
                go_wp2_with fail
                go_region
                go_wp2_with fail
                go_roundg (es.length - (j + 1))
                case measure => omega
                case rel => exact ⟨j + 1, more, rfl, rfl, by omega, Nat.le_refl _, HN⟩
              · obtain ⟨m, hm⟩ : ∃ m, m = min x y := ⟨_, rfl⟩
                have hmin : min (x : Int) (y : Int) = (m : Int) := by omega
                have hcs : (((x : Int) != (m : Int)) = true) ∨ (((x : Int) != (m : Int)) = false ∧ ((y : Int) != (m : Int)) = true) := by
                  by_cases e1 : x = m
                  · right; exact ⟨by rw [e1]; simp, by simp; omega⟩
                  · left; simp; omega
                have HT := Lib.hid (LIn.told HW.out H2.out H3.out HE.out ha hb (m := m) (by rw [HX.out, HYY.out]; exact hm) (by rw [HX.out, HYY.out]; exact heq))
                have HT1 : Hid (LIn w w.heap.size i es l0 (j + 1) true ((((wr.setCell ⟨w.heap.size, e.a, none⟩ (.int .i64 m)).setCell ⟨w.heap.size, e.b, none⟩ (.int .i64 m)).alloc (.cells #[.int .i64 e.id, .int .i64 e.a, .int .i64 e.b] 42)).drew.drew)) :=
                  Lib.hid (let ⟨l', g1, g2, g3⟩ := HT.out.1; ⟨l', g1.keep (((Keep.refl Nb _).alloc _).drew.drew), g2, Nat.le_of_lt g3, fun _ => g3, fun h => by cases h⟩)
                have HT2 : Hid (LIn w w.heap.size i es l0 (j + 1) true ((((wr.setCell ⟨w.heap.size, e.b, none⟩ (.int .i64 m)).setCell ⟨w.heap.size, e.a, none⟩ (.int .i64 m)).alloc (.cells #[.int .i64 e.id, .int .i64 e.a, .int .i64 e.b] 42)).drew.drew)) :=
                  Lib.hid (let ⟨l', g1, g2, g3⟩ := HT.out.2; ⟨l', g1.keep (((Keep.refl Nb _).alloc _).drew.drew), g2, Nat.le_of_lt g3, fun _ => g3, fun h => by cases h⟩)
                have hee : ¬ e.a = e.b := fun h => heq (by rw [← HX.out, ← HYY.out, h])
                have hee2 : ¬ e.b = e.a := fun h => hee h.symm
                have l1 : ¬ w.heap.size = wr.heap.size := by omega
                have l2 : ¬ wr.heap.size = w.heap.size := by omega
                clear hm
                clear heq
                rcases hcs with h1 | ⟨h1, h2⟩
                all_goals
                  go_wp2_with fail
                  go_region
                  go_wp2_with fail
                  go_region
                  all_goals
                    go_wp2_with fail
                    go_roundg (es.length - (j + 1))
                    case measure => omega
                    case rel => exact ⟨j + 1, true, rfl, rfl, by omega, Nat.le_refl _, by first | exact HT1 | exact HT2⟩
            · obtain rfl : j = es.length := by omega
              have HN : Hid (LOut w w.heap.size i es more (gk_ - 1) wr) := Lib.hid (by
                obtain ⟨l, h1, h2, h3, h4, h5⟩ := HR.out
                have hm := HM0.out
                refine ⟨l, h1, h2, fun e => by have := h4 e; omega, fun e => ?_⟩
                obtain ⟨g1, g2⟩ := h5 e
                intro f hf
                obtain ⟨k, hk⟩ := List.mem_iff_getElem?.1 hf
                rw [g1]
                exact g2 k f (List.getElem?_eq_some_iff.1 hk).1 hk)
              go_wp2_with fail
              go_roundg (gk_ - 1)
              case measure => have := HM0.out; omega
              case rel => exact ⟨more, rfl, HN⟩

end Go.Proofs.YtkpoobnldgfapabGreatDoor
