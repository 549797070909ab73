/- graph: slices.Delete of one edge; Drop. -/
import Derived.Test.YtkpoobnldgfapaaDoorGEdge
import Derived.Test.YtkpoobnldgfapaaDoorPlDrop
set_option linter.unusedVariables false
set_option linter.unusedSimpArgs false
namespace Go.Proofs.YtkpoobnldgfapaaDoor
open Go.RowKit Pl

theorem ecs_take3 {es : List E} {cur : List Value} {n : Nat} (h : cur.take (n * 3) = ecs es) (k : Nat) (hk : k ≤ n) : cur.take (k * 3) = ecs (es.take k) := by
  rw [ecs_take, ← h, List.take_take, Nat.min_eq_left (by omega)]

set_option maxRecDepth 100000 in
/-- One edge goes out: those behind it come forward. -/
theorem del_room {F : Nat → Prop} {w : World} {g n c : Nat} {es : List E} (h : Sl F w 55 3 (some ⟨g, 0, none⟩) n c (ecs es)) (hn : es.length = n) {i m : Nat} (him : i + 1 + m = n) (c1 : Nat) (sa : Addr) (hsa : 0 < m → sa = ⟨g, (i + 1) * 3, none⟩) :
    ∃ w', (∀ ty, (Builtin.append_ #[62, 62] ty #[.slice (some ⟨g, 0, none⟩) i c, .slice (some sa) m c1]).run Tryd.prog w = .ok (.slice (some ⟨g, 0, none⟩) (i + m) c) w') ∧
      (∃ L, Sl F w' 55 3 (some ⟨g, 0, none⟩) n c (ecs L) ∧ L.take (i + m) = delAt es i) ∧ Keep (fun j => j = g) w w' := by
  rcases h.cases with ⟨h0, _⟩ | ⟨g', e1, hF, hnc, hcm, hrow, cur, hg, hcs⟩
  · cases h0
  · have hlen := h.len
    rw [ecs_length] at hlen
    cases e1
    obtain ⟨info, hinfo, hz, hs, hb⟩ := info_parts elem_edge
    have htk : cur.toList.take (n * 3) = ecs es := by
      rcases h.own.2 with ⟨e, _⟩ | ⟨g2, cap2, cur2, e2, _, hg2, _, _, _, ht⟩
      · simp at e
      · simp only [Value.slice.injEq, Option.some.injEq, Addr.mk.injEq, and_true, true_and] at e2
        obtain ⟨rfl, rfl⟩ := e2
        rw [hg] at hg2
        cases hg2
        exact ht
    obtain ⟨news, hnews⟩ : ∃ news, ecs (es.drop (i + 1)) = news := ⟨_, rfl⟩
    have hnl : news.length = m * 3 := by rw [← hnews, ecs_length, List.length_drop]; congr 1; omega
    have hsz : info.size = 3 := hs
    have hr := fun ty => run_append_room (P := Tryd.prog) w 62 ty 55 info und_edges hinfo g i c cur hg sa m c1 news (by rw [hsz]; exact hnl)
      (fun j u hj => by
        have hj' : j < news.length := (List.getElem?_eq_some_iff.1 hj).1
        rw [hsa (by omega)]
        have : (ecs es)[(i + 1) * 3 + j]? = some u := by
          rw [← hnews, ecs_drop, List.getElem?_drop] at hj
          exact hj
        rw [show (⟨g, (i + 1) * 3, none⟩ : Addr).add j = ⟨g, (i + 1) * 3 + j, none⟩ from by unfold Addr.add; split <;> simp_all]
        exact hrow.cell this)
      (by rw [← hnews]; exact ecs_one _) (by omega) (by rw [hsz, hnl]; omega)
    have hA : (cur.toList.take (i * 3) ++ news).length = (i + m) * 3 := by
      rw [List.length_append, List.length_take, Array.length_toList, hnl]; omega
    refine ⟨_, hr, ⟨delAt es i ++ es.drop (i + m), ?_, ?_⟩, ?_⟩
    · refine ⟨⟨?_, .inr ⟨g, c, _, rfl, Nat.zero_le _, setRow_heap w g cur _ 55 _ hg, hnc, hcm, ?_, ?_⟩⟩, h.foot⟩
      · rw [ecs_length, List.length_append, List.length_drop]
        have := delAt_length (es := es) (k := i) (by omega)
        omega
      · rw [hsz]
        simp only [List.size_toArray, List.length_append, List.length_take, List.length_drop, Array.length_toList, hnl]
        omega
      · rw [hsz]
        show ((cur.toList.take (i * 3) ++ news) ++ cur.toList.drop (i * 3 + news.length)).take (n * 3) = _
        have e3 : i * 3 + news.length = (i + m) * 3 := by rw [hnl]; omega
        rw [List.take_append, hA, List.take_of_length_le (by rw [hA]; omega), e3, ecs_take3 htk i (by omega)]
        have e4 : (cur.toList.drop ((i + m) * 3)).take (n * 3 - (i + m) * 3) = ecs (es.drop (i + m)) := by
          rw [ecs_drop, ← htk, List.drop_take]
        rw [e4, ← hnews]
        unfold delAt
        rw [ecs_append, ecs_append]
    · rw [List.take_append_of_le_length (by have := delAt_length (es := es) (k := i) (by omega); omega), List.take_of_length_le (by have := delAt_length (es := es) (k := i) (by omega); omega)]
    · exact ⟨rfl, rfl, rfl, by simp, fun k _ hk => setRow_other w g k _ (fun e => hk e)⟩

def DropPost (F : Nat → Prop) (w : World) (g n : Nat) (es : List E) (t : Int) (e : Ending) (w' : World) : Prop :=
  e = .returned (if hasId es t = true then .nilIface else errVal 7) ∧ Gr F w' g n (if hasId es t = true then delAt es (posOf es t) else es) ∧ Keep F w w'

end Go.Proofs.YtkpoobnldgfapaaDoor
