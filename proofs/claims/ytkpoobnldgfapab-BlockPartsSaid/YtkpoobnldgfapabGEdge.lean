/- graph: Edge, of a number that is there and of one that is not; At, of a node that is not there. -/
import Derived.Test.YtkpoobnldgfapabA5
import Derived.Test.YtkpoobnldgfapabB4
import Derived.Test.YtkpoobnldgfapabA2
set_option linter.unusedVariables false
set_option linter.unusedSimpArgs false
namespace Go.Proofs.Ytkpoobnldgfapab
open Go.RowKit Pl

set_option maxRecDepth 100000 in
theorem gedge_hit (F : Nat → Prop) (w : World) (b n : Nat) (es : List E) (e : E) (hG : Gr F w b n es) (hs : Sorted es) (hn : es.length ≤ 1000) (h1 : es[posOf es e.id]? = some e) (h2 : hasId es e.id = true) :
    Calls Try.prog 10 #[.pointer (some ⟨b, 0, none⟩), .int .i64 e.id] w fun e' w' => e' = .returned (.tuple #[.agg #[.int .i64 e.id, .int .i64 e.a, .int .i64 e.b], .nilIface]) ∧ Keep Nb w w' := by
  have HG := Lib.hid hG
  have HS := Lib.hid hs
  clear hG hs
  go_enter Try.func10, Try.ntmps10
  go_wp2_with fail
  refine (find_any F _ b n es e.id (HG.out.alloc _) HS.out hn).mono ?_
  rintro e1 w1 ⟨rfl, hk⟩
  have kw : Keep Nb w w1 := ((Keep.refl Nb w).alloc _).trans hk
  have hR : Row w1 w.heap.size 37 [.int .i64 0, .int .i64 0, .int .i64 0] := (Row.new w #[.int .i64 0, .int .i64 0, .int .i64 0] 37).keep hk (fun e => e)
  have c0 := hR.cell (i := 0) rfl
  have c1 := hR.cell (i := 1) rfl
  have c2 := hR.cell (i := 2) rfl
  have f0 := hR.frozen 0 none
  have f1 := hR.frozen 1 none
  have f2 := hR.frozen 2 none
  have HKE : Hid (Keep Nb w (((w1.setCell ⟨w.heap.size, 0, none⟩ (.int .i64 e.id)).setCell ⟨w.heap.size, 1, none⟩ (.int .i64 e.a)).setCell ⟨w.heap.size, 2, none⟩ (.int .i64 e.b))) := Lib.hid (((kw.setCell (p := ⟨w.heap.size, 0, none⟩) (.inr (Nat.le_refl _)) _).setCell (p := ⟨w.heap.size, 1, none⟩) (.inr (Nat.le_refl _)) _).setCell (p := ⟨w.heap.size, 2, none⟩) (.inr (Nat.le_refl _)) _)
  have HKW := Lib.hid kw
  have hG1 := HG.out.keep kw (fun _ _ e => e)
  obtain ⟨o, c, hM⟩ := hG1
  obtain ⟨pos, hpos⟩ : ∃ pos, posOf es e.id = pos := ⟨_, rfl⟩
  rw [hpos] at h1 ⊢
  rw [h2]
  have hlt := (List.getElem?_eq_some_iff.1 h1).1
  have d := hM.head.cell (i := 1) rfl
  obtain ⟨g, rfl, _, hc, hrow⟩ := hM.s.pos (by omega)
  have e0 := hrow.edges.id _ _ h1
  have e1 := hrow.edges.a _ _ h1
  have e2 := hrow.edges.b _ _ h1
  have k0 := (hR.set (i := 0) (by simp) (.int .i64 e.id)).cell (i := 0) rfl
  have k1 := ((hR.set (i := 0) (by simp) (.int .i64 e.id)).set (i := 1) (by simp) (.int .i64 e.a)).cell (i := 1) rfl
  have k2 := (((hR.set (i := 0) (by simp) (.int .i64 e.id)).set (i := 1) (by simp) (.int .i64 e.a)).set (i := 2) (by simp) (.int .i64 e.b)).cell (i := 2) rfl
  have K012 := Lib.hid (And.intro k0 (And.intro k1 k2))
  clear hk kw hM hrow hR HKW HG HS h1 h2 hpos k0 k1 k2
  go_wp2_with fail
  obtain ⟨k0, k1, k2⟩ := K012.out
  refine bodyPost_ret (v := .tuple #[.agg #[.int .i64 e.id, .int .i64 e.a, .int .i64 e.b], .nilIface]) (by simp [results, Try.results10, go_sem, k0, k1, k2]) rfl ⟨rfl, HKE.out⟩

set_option maxRecDepth 100000 in
theorem gedge_miss (F : Nat → Prop) (w : World) (b n : Nat) (es : List E) (t : Int) (hG : Gr F w b n es) (hs : Sorted es) (hn : es.length ≤ 1000) (h2 : hasId es t = false) :
    Calls Try.prog 10 #[.pointer (some ⟨b, 0, none⟩), .int .i64 t] w fun e' w' => e' = .returned (.tuple #[.agg #[.int .i64 0, .int .i64 0, .int .i64 0], errVal 7]) ∧ Keep Nb w w' := by
  have HG := Lib.hid hG
  have HS := Lib.hid hs
  clear hG hs
  go_enter Try.func10, Try.ntmps10
  go_wp2_with fail
  refine (find_any F _ b n es t (HG.out.alloc _) HS.out hn).mono ?_
  rintro e1 w1 ⟨rfl, hk⟩
  have kw : Keep Nb w w1 := ((Keep.refl Nb w).alloc _).trans hk
  have hR : Row w1 w.heap.size 37 [.int .i64 0, .int .i64 0, .int .i64 0] := (Row.new w #[.int .i64 0, .int .i64 0, .int .i64 0] 37).keep hk (fun e => e)
  have c0 := hR.cell (i := 0) rfl
  have c1 := hR.cell (i := 1) rfl
  have c2 := hR.cell (i := 2) rfl
  have f0 := hR.frozen 0 none
  have f1 := hR.frozen 1 none
  have f2 := hR.frozen 2 none
  have HKE : Hid (Keep Nb w (((w1.setCell ⟨w.heap.size, 0, none⟩ (.int .i64 0)).setCell ⟨w.heap.size, 1, none⟩ (.int .i64 0)).setCell ⟨w.heap.size, 2, none⟩ (.int .i64 0))) := Lib.hid (((kw.setCell (p := ⟨w.heap.size, 0, none⟩) (.inr (Nat.le_refl _)) _).setCell (p := ⟨w.heap.size, 1, none⟩) (.inr (Nat.le_refl _)) _).setCell (p := ⟨w.heap.size, 2, none⟩) (.inr (Nat.le_refl _)) _)
  obtain ⟨pos, hpos⟩ : ∃ pos, posOf es t = pos := ⟨_, rfl⟩
  rw [hpos, h2]
  have k0 := (hR.set (i := 0) (by simp) (.int .i64 0)).cell (i := 0) rfl
  have k1 := ((hR.set (i := 0) (by simp) (.int .i64 0)).set (i := 1) (by simp) (.int .i64 0)).cell (i := 1) rfl
  have k2 := (((hR.set (i := 0) (by simp) (.int .i64 0)).set (i := 1) (by simp) (.int .i64 0)).set (i := 2) (by simp) (.int .i64 0)).cell (i := 2) rfl
  have K012 := Lib.hid (And.intro k0 (And.intro k1 k2))
  clear hk kw hR HG HS h2 hpos k0 k1 k2
  go_wp2_with fail
  obtain ⟨k0, k1, k2⟩ := K012.out
  refine bodyPost_ret (v := .tuple #[.agg #[.int .i64 0, .int .i64 0, .int .i64 0], errVal 7]) (by simp [results, Try.results10, go_sem, k0, k1, k2, errVal]) rfl ⟨rfl, HKE.out⟩

set_option maxRecDepth 100000 in
theorem at_err (F : Nat → Prop) (w : World) (b n : Nat) (es : List E) (x : Int) (hG : Gr F w b n es) (hx : outB n x = true) :
    Calls Try.prog 33 #[.pointer (some ⟨b, 0, none⟩), .int .i64 x] w fun e' w' => e' = .returned (.tuple #[.slice none 0 0, errVal 2]) ∧ Keep Nb w w' := by
  obtain ⟨o, c, hM⟩ := hG
  have c0 := hM.head.cell (i := 0) rfl
  have hb := hM.head.lt
  have hb2 : b ≠ w.heap.size := by omega
  clear hM
  by_cases d1 : x < 0
  · go_enter Try.func33, Try.ntmps33
    go_wp2_with fail
    go_quiet (fail)
    go_wp2_with fail
    go_ret2
    exact ⟨rfl, ((Keep.refl Nb w).alloc _).drewN nq⟩
  · have d2 : (n : Int) ≤ x := by rcases outB_true.1 hx with h | h; exact absurd h d1; exact h
    go_enter Try.func33, Try.ntmps33
    go_wp2_with fail
    go_quiet (fail)
    go_wp2_with fail
    go_ret2
    exact ⟨rfl, ((Keep.refl Nb w).alloc _).drewN nq⟩

end Go.Proofs.Ytkpoobnldgfapab
