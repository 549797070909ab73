/- isthmusref: Without, the walk. -/
import Derived.Test.YtkpoobnldgfapabGreatDoorRGraph3
set_option linter.unusedVariables false
set_option linter.unusedSimpArgs false
namespace Go.Proofs.YtkpoobnldgfapabGreatDoor
open Go.RowKit Pl

def RWRel (w : World) (n : Nat) (ed nd : List Nat) (es : List E) (i : Nat) (q : Nat) (wr : World) : Prop :=
  q = w.heap.size ∧ RGr (fun k => w.heap.size ≤ k) wr q n (withoutEs ed nd (es.take i)) ∧ Keep Nb w wr

def RWithoutPost (w : World) (n : Nat) (ed nd : List Nat) (es : List E) (e : Ending) (w' : World) : Prop :=
  e = .returned (.pointer (some ⟨w.heap.size, 0, none⟩)) ∧ RGr (fun k => w.heap.size ≤ k) w' w.heap.size n (withoutEs ed nd es) ∧ Keep Nb w w'

/-- A round that takes none. -/
theorem RWRel.skip {w wr w2 : World} {n : Nat} {ed nd : List Nat} {es : List E} {i q : Nat} {e : E} (h : RWRel w n ed nd es i q wr) (he : es[i]? = some e) (hk : keeps ed nd e = false) (k : Keep Nb wr w2) : RWRel w n ed nd es (i + 1) q w2 := by
  obtain ⟨h1, h2, h3⟩ := h
  refine ⟨h1, ?_, h3.trans k⟩
  rw [withoutEs_succ he, hk]
  simp only [Bool.false_eq_true, if_false, List.append_nil]
  exact h2.keep k (fun _ _ h => h)

/-- A round that takes one. -/
theorem RWRel.take {w wr w2 w3 : World} {n : Nat} {ed nd : List Nat} {es : List E} {i : Nat} {e : E} {o : Option Addr} {c : Nat} (hF : Keep Nb w wr) (hM : RGrMem (fun k => w.heap.size ≤ k) wr w.heap.size n (withoutEs ed nd (es.take i)) o c) (he : es[i]? = some e) (hk : keeps ed nd e = true)
    (k : Keep Nb wr w2) {g c' m : Nat} (hm : m = (withoutEs ed nd (es.take i)).length) (hS : Sl (fun k => w.heap.size ≤ k ∨ k = w2.heap.size + 1) w3 42 3 (some ⟨g, 0, none⟩) (m + 1) c' (ecs (withoutEs ed nd (es.take i)) ++ ecells e)) (hk3 : Keep (Bl o) w2 w3) (hg : o = some ⟨g, 0, none⟩ ∨ g = w2.heap.size + 1) :
    RWRel w n ed nd es (i + 1) w.heap.size (w3.setCell ⟨w.heap.size, 1, none⟩ (.slice (some ⟨g, 0, none⟩) (m + 1) c')) := by
  have hsz := k.size
  have hF1 := hF.size
  have hlt := hM.head.lt
  have hbl : ∀ j, Bl o j → w.heap.size ≤ j ∧ j ≠ w.heap.size := by
    rintro j ⟨x, hx, rfl⟩
    exact ⟨hM.s.foot x hx, hM.d x hx⟩
  have hgq : g ≠ w.heap.size := by
    rcases hg with h | h
    · exact hM.d _ h
    · omega
  have hhead := (hM.head.keep k (fun h => h)).keep hk3 (fun h => (hbl _ h).2 rfl)
  have hes : withoutEs ed nd (es.take (i + 1)) = withoutEs ed nd (es.take i) ++ [e] := by rw [withoutEs_succ he, hk]; rfl
  have hlen : (withoutEs ed nd (es.take (i + 1))).length = m + 1 := by rw [hes, List.length_append, ← hm]; rfl
  refine ⟨rfl, ⟨some ⟨g, 0, none⟩, c', ?_, ?_, ?_, ?_⟩, ?_⟩
  · have := hhead.set (i := 1) (by simp) (.slice (some ⟨g, 0, none⟩) (m + 1) c')
    rw [hlen]
    exact this
  · exact Nat.le_refl _
  · rw [hlen, hes, ecs_append, ecs_cons, ecs_nil, List.append_nil]
    exact (hS.mono (G := fun k => w.heap.size ≤ k) (fun j hj => by rcases hj with h | h; exact h; omega)).set_ne (p := ⟨w.heap.size, 1, none⟩) (fun x hx => by cases hx; exact hgq) _
  · intro x hx; cases hx; exact hgq
  · exact ((hF.trans k).trans' hk3 (H := Nb) (fun _ _ h => h) (fun j hj h => by have := (hbl j h).1; omega)).setCell (.inr (Nat.le_refl _)) _

set_option maxRecDepth 100000 in
set_option maxHeartbeats 1000000 in
theorem rwithout_any (F Fe Fn : Nat → Prop) (w : World) (b n : Nat) (es : List E) (oe on : Option Addr) (ce cn : Nat) (ed nd : List Nat) (hG : RGr F w b n es) (hn : es.length ≤ 1000)
    (hE : Sl Fe w 3 1 oe ed.length ce (ints ed)) (hN : Sl Fn w 3 1 on nd.length cn (ints nd)) (he : ed.length ≤ 1000) (hnl : nd.length ≤ 1000) :
    Calls Tryz.prog 79 #[.pointer (some ⟨b, 0, none⟩), .slice oe ed.length ce, .slice on nd.length cn] w (RWithoutPost w n ed nd es) := by
  obtain ⟨o, c, hM⟩ := hG
  have c0 := hM.head.cell (i := 0) rfl
  have c1 := hM.head.cell (i := 1) rfl
  have hbw := hM.head.lt
  have HM := Lib.hid hM
  have HE := Lib.hid hE
  have HN := Lib.hid hN
  have H0 : Hid (RWRel w n ed nd es 0 w.heap.size (w.alloc (.cells #[.int .i64 n, .slice none 0 0] 56))) :=
    Lib.hid ⟨rfl, ⟨none, 0, Row.new w #[.int .i64 n, .slice none 0 0] 56, Nat.le_refl _, (Sl.nil _ w 42 3).alloc _, fun _ h => by cases h⟩, (Keep.refl Nb w).alloc _⟩
  clear hM hE hN
  go_enter Tryz.func79, Tryz.ntmps79
  go_wp2
  go_loopg [22] es.length (fun kx s wr => ∃ i : Nat, s = .int .i64 i ∧ i ≤ es.length ∧ es.length - i ≤ kx ∧ Hid (RWRel w n ed nd es i w.heap.size wr))
  case atStart => exact ⟨0, rfl, Nat.zero_le _, by omega, H0⟩
  case round =>
    clear H0
    obtain ⟨i, rfl, hi, hg, HR⟩ := hrel
    by_cases hlt : i < es.length
    · obtain ⟨g, rfl, _, hnc, hrow⟩ := HM.out.s.pos (by omega)
      have hy := List.getElem?_eq_getElem hlt
      generalize es[i]'hlt = e at hy
      have hEr := hrow.edges.keep HR.out.2.2 id
      have d1 := hEr.id _ _ hy
      have d2 := hEr.a _ _ hy
      have d3 := hEr.b _ _ hy
      have HY := Lib.hid hy
      have HE1 := Lib.hid ((HE.out.keep HR.out.2.2 (fun _ _ h => h)).alloc (.cells #[.int .i64 e.id, .int .i64 e.a, .int .i64 e.b] 42))
      have HN1 := Lib.hid ((HN.out.keep HR.out.2.2 (fun _ _ h => h)).alloc (.cells #[.int .i64 e.id, .int .i64 e.a, .int .i64 e.b] 42))
      have HK := Lib.hid ((Keep.refl Nb wr).alloc (.cells #[.int .i64 e.id, .int .i64 e.a, .int .i64 e.b] 42))
      clear hy hrow hEr
      by_cases m1 : e.id ∈ ed
      · go_wp2_with fail
        refine (has_any Fe _ oe ce ed e.id true (decide_eq_true m1).symm HE1.out he).mono ?_
        rintro e1 w1 ⟨rfl, rfl⟩
        go_wp2
        go_roundg (es.length - (i + 1))
        case measure => omega
        case rel => exact ⟨i + 1, rfl, by omega, Nat.le_refl _, Lib.hid (HR.out.skip HY.out (by simp [keeps, m1]) HK.out)⟩
      · by_cases m2 : e.a ∈ nd
        · go_wp2_with fail
          refine (has_any Fe _ oe ce ed e.id false (decide_eq_false m1).symm HE1.out he).mono ?_
          rintro e1 w1 ⟨rfl, rfl⟩
          go_wp2_with fail
          refine (has_any Fn _ on cn nd e.a true (decide_eq_true m2).symm HN1.out hnl).mono ?_
          rintro e1 w1 ⟨rfl, rfl⟩
          go_wp2
          go_roundg (es.length - (i + 1))
          case measure => omega
          case rel => exact ⟨i + 1, rfl, by omega, Nat.le_refl _, Lib.hid (HR.out.skip HY.out (by simp [keeps, m2]) HK.out)⟩
        · by_cases m3 : e.b ∈ nd
          · go_wp2_with fail
            refine (has_any Fe _ oe ce ed e.id false (decide_eq_false m1).symm HE1.out he).mono ?_
            rintro e1 w1 ⟨rfl, rfl⟩
            go_wp2_with fail
            refine (has_any Fn _ on cn nd e.a false (decide_eq_false m2).symm HN1.out hnl).mono ?_
            rintro e1 w1 ⟨rfl, rfl⟩
            go_wp2_with fail
            refine (has_any Fn _ on cn nd e.b true (decide_eq_true m3).symm HN1.out hnl).mono ?_
            rintro e1 w1 ⟨rfl, rfl⟩
            go_wp2
            go_roundg (es.length - (i + 1))
            case measure => omega
            case rel => exact ⟨i + 1, rfl, by omega, Nat.le_refl _, Lib.hid (HR.out.skip HY.out (by simp [keeps, m3]) HK.out)⟩
          · obtain ⟨_, ⟨o2, c2, hM2⟩, hkw⟩ := HR.out
            have hle := withoutEs_len ed nd (es.take i)
            rw [List.length_take] at hle
            have hM3 := (hM2.alloc (.cells #[.int .i64 e.id, .int .i64 e.a, .int .i64 e.b] 42)).drew
            obtain ⟨gq, c', w3, h1, h2, h3, h4⟩ := run_appN (P := Tryz.prog) 38 38 42 und_edges elem_edge (by rfl) (by omega) hM3.s (ecells e) 1 (fun u hu => ecs_one [e] u (by simpa [ecs] using hu)) rfl (by omega) (by omega) (by omega)
            have hsz2 : (wr.alloc (.cells #[.int .i64 e.id, .int .i64 e.a, .int .i64 e.b] 42)).drew.heap.size = wr.heap.size + 1 := by simp
            have hrow3 := hM3.head.keep h3 (fun h => by obtain ⟨x, hx, hxg⟩ := h; exact hM3.d x hx hxg)
            have x1 := hM2.head.cell (i := 1) rfl
            have x2 := hrow3.cell (i := 1) rfl
            have x3 := hrow3.frozen 1 none
            have x4 := hM2.head.lt
            generalize hm : (withoutEs ed nd (es.take i)).length = m at *
            have HT := Lib.hid (RWRel.take hkw hM2 HY.out (by simp [keeps, m1, m2, m3]) (HK.out.drew) hm.symm h2 h3 h4)
            rw [hsz2] at h1
            have H1 := Lib.hid h1
            have mixed : (Tryz.prog).follows Departure.mixedOrders = true := by kernel_rfl
            clear h1 h2 h3 h4 hM2 hM3 hrow3 hkw hsz2 hm
            go_wp2_with fail
            refine (has_any Fe _ oe ce ed e.id false (decide_eq_false m1).symm HE1.out he).mono ?_
            rintro e1 w1 ⟨rfl, rfl⟩
            go_wp2_with fail
            refine (has_any Fn _ on cn nd e.a false (decide_eq_false m2).symm HN1.out hnl).mono ?_
            rintro e1 w1 ⟨rfl, rfl⟩
            go_wp2_with fail
            refine (has_any Fn _ on cn nd e.b false (decide_eq_false m3).symm HN1.out hnl).mono ?_
            rintro e1 w1 ⟨rfl, rfl⟩
            go_wp2_with fail
            go_region_law_o (refine step_app_run rfl _ _ 38 38 rfl (.slice o2 m c2) (.slice (some ⟨wr.heap.size + 1, 0, none⟩) 1 1) (by simp [Act.eval, Act.put]) (by simp [Act.eval, Act.put]) H1.out ?_)
            all_goals
              (try go_wp2)
              go_roundg (es.length - (i + 1))
              case measure => omega
              case rel => exact ⟨i + 1, rfl, by omega, Nat.le_refl _, HT⟩
    · obtain rfl : i = es.length := by omega
      have hP : RWithoutPost w n ed nd es (.returned (.pointer (some ⟨w.heap.size, 0, none⟩))) wr := by
        obtain ⟨_, h2, h3⟩ := HR.out
        rw [List.take_length] at h2
        exact ⟨rfl, h2, h3⟩
      have HP := Lib.hid hP
      clear hP
      go_wp2
      go_ret
      exact HP.out

end Go.Proofs.YtkpoobnldgfapabGreatDoor
