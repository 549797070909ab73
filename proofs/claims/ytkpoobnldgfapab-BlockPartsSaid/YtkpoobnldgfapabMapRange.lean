/- 'for k := range m': an iterator over a map that stands still. Nothing of one program stands here. -/
import Derived.Test.YtkpoobnldgfapabA1
import Derived.Maps.RangeRun
set_option linter.unusedVariables false
set_option linter.unusedSimpArgs false
namespace Go.Proofs.Ytkpoobnldgfapab
open Go.RowKit Go.Maps

/-- Block r is an iterator over the map in block b; so many are still to come. -/
def MRange {α : Type} (enc : α → Value) (w : World) (b r : Nat) (m : List (α × Value)) (cnt : Nat) : Prop :=
  ∃ es clock since seen c0, w.heap[b]? = some (.map es clock) ∧ es.toList.map (fun e => (e.key, e.val)) = m.map (fun p => (enc p.1, p.2)) ∧ (es.toList.map (·.born)).Nodup ∧
    w.heap[r]? = some (.mapIter (some b) since seen c0) ∧ (∀ x ∈ es.toList, x.born < since) ∧ since ≤ c0 ∧ since ≤ clock ∧ (leftOf es seen).size = cnt

section
variable {α : Type} {enc : α → Value} {D : α → Prop} {w : World} {b r cnt : Nat} {m : List (α × Value)} {P : Program}

theorem MRange.ltr (h : MRange enc w b r m cnt) : r < w.heap.size := by
  obtain ⟨es, clock, since, seen, c0, _, _, _, h4, _⟩ := h
  exact (Array.getElem?_eq_some_iff.1 h4).1

theorem MRange.keep {G : Nat → Prop} {w' : World} (h : MRange enc w b r m cnt) (k : Keep G w w') (hb : ¬ G b) (hr : ¬ G r) : MRange enc w' b r m cnt := by
  obtain ⟨es, clock, since, seen, c0, h1, h2, h3, h4, rest⟩ := h
  exact ⟨es, clock, since, seen, c0, (k.block b (Array.getElem?_eq_some_iff.1 h1).1 hb).trans h1, h2, h3, (k.block r (Array.getElem?_eq_some_iff.1 h4).1 hr).trans h4, rest⟩

theorem MapAt.range {k e t : TypeId} (h : MapAt enc D w b m) (ht : P.underlying t = some (.map k e)) :
    ∃ w' cnt, (Instr.range t (.map (some b))).run P w = .ok (.pointer (some ⟨w.heap.size, 0, none⟩)) w' ∧ MRange enc w' b w.heap.size m cnt ∧ Keep Nb w w' ∧ w'.heap.size = w.heap.size + 1 := by
  obtain ⟨es, clock, hb, hm, hD, hn, hs, hc⟩ := h
  have hlt := (Array.getElem?_eq_some_iff.1 hb).1
  refine ⟨_, _, run_range_map w t k e b es clock ht hb, ⟨es, clock, clock, #[], clock, ((MapKept.heap_alloc w _).2 b hlt).trans hb, hm, hs, (MapKept.heap_alloc w _).1, hc, Nat.le_refl _, Nat.le_refl _, rfl⟩, (Keep.refl Nb w).alloc _, by simp⟩

theorem MRange.next (h : MRange enc w b r m cnt) (hne : r ≠ b) (ty : TypeId) :
    (cnt = 0 ∧ (Instr.next (.pointer (some ⟨r, 0, none⟩)) false ty).run P w = .ok (.tuple #[.bool false]) w) ∨
      ∃ p w' cnt', p ∈ m ∧ (Instr.next (.pointer (some ⟨r, 0, none⟩)) false ty).run P w = .ok (.tuple #[.bool true, enc p.1, p.2]) w' ∧ MRange enc w' b r m cnt' ∧ cnt' < cnt ∧ Keep (fun j => j = r) w w' ∧
        (Instr.entry (.pointer (some ⟨r, 0, none⟩))).run P w' = .ok (.tuple #[enc p.1, p.2]) w' := by
  obtain ⟨es, clock, since, seen, c0, hb, hm, hs, hr, hold, hsc, hsk, rfl⟩ := h
  rcases run_next_at (P := P) w ty r b since c0 seen es clock hr hb hold hsc with ⟨h0, hrun⟩ | ⟨e, he, w1, hal, hrun⟩
  · exact .inl ⟨h0, hrun⟩
  · obtain ⟨hem, hes⟩ := mem_left he
    have hpm : (e.key, e.val) ∈ m.map (fun p => (enc p.1, p.2)) := hm ▸ List.mem_map.2 ⟨e, hem, rfl⟩
    obtain ⟨p, hp, hpe⟩ := List.mem_map.1 hpm
    simp only [Prod.mk.injEq] at hpe
    have hr1 : w1.heap[r]? = some (.mapIter (some b) since seen c0) := by rcases hal with rfl | rfl <;> exact hr
    have hb1 : w1.heap[b]? = some (.map es clock) := by rcases hal with rfl | rfl <;> exact hb
    have hset := MapKept.heap_set (o' := .mapIter (some b) since (seen.push e.born) clock) hr1
    have hb' : (ChangeMaps.setBlock w1 r (.mapIter (some b) since (seen.push e.born) clock)).heap[b]? = some (.map es clock) := (hset.2 b (fun e1 => hne e1.symm)).trans hb1
    refine .inr ⟨p, _, _, hp, by rw [hpe.1, hpe.2]; exact hrun, ⟨es, clock, since, seen.push e.born, clock, hb', hm, hs, hset.1, hold, hsk, hsk, rfl⟩, left_shrinks es seen e he, ?_, ?_⟩
    · rcases hal with rfl | rfl
      · exact keep_setBlock hr
      · exact (keep_setBlock (w := w.drew) hr1 : Keep _ w.drew _) |> fun k => (Keep.refl _ w).drew.trans k
    · rw [hpe.1, hpe.2]
      exact run_entry_at _ r b since seen es clock e hset.1 hb' hem hs
end

end Go.Proofs.Ytkpoobnldgfapab
