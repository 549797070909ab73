/- 'for k := range m' over a map that stands still: which keys are still to come. Nothing of one program stands here. -/
import Derived.Test.YtkpoobnldgfapabMapRange
import Derived.WideLaws
set_option linter.unusedVariables false
set_option linter.unusedSimpArgs false
namespace Go.Proofs.Ytkpoobnldgfapab
open Go.RowKit Go.Maps

def leftK {α : Type} (es : List MapEntry) (m : List (α × Value)) (seen : Array Nat) : List α := ((es.zip m).filter (fun p => !seen.contains p.1.born)).map (fun p => p.2.1)

/-- Block r is an iterator over the map in block b; those keys are still to come. -/
def MRangeL {α : Type} (enc : α → Value) (w : World) (b r : Nat) (m : List (α × Value)) (left : List α) : Prop :=
  ∃ es clock since seen c0, w.heap[b]? = some (.map es clock) ∧ es.toList.map (fun e => (e.key, e.val)) = m.map (fun p => (enc p.1, p.2)) ∧ (es.toList.map (·.born)).Nodup ∧
    w.heap[r]? = some (.mapIter (some b) since seen c0) ∧ (∀ x ∈ es.toList, x.born < since) ∧ since ≤ c0 ∧ since ≤ clock ∧ left = leftK es.toList m seen

section
variable {α : Type} {enc : α → Value} {D : α → Prop} {w : World} {b r : Nat} {m : List (α × Value)} {left : List α} {P : Program}

theorem MRangeL.ltr (h : MRangeL enc w b r m left) : r < w.heap.size := by
  obtain ⟨es, clock, since, seen, c0, _, _, _, h4, _⟩ := h
  exact (Array.getElem?_eq_some_iff.1 h4).1

theorem MRangeL.keep {G : Nat → Prop} {w' : World} (h : MRangeL enc w b r m left) (k : Keep G w w') (hb : ¬ G b) (hr : ¬ G r) : MRangeL enc w' b r m left := by
  obtain ⟨es, clock, since, seen, c0, h1, h2, h3, h4, rest⟩ := h
  exact ⟨es, clock, since, seen, c0, (k.block b (Array.getElem?_eq_some_iff.1 h1).1 hb).trans h1, h2, h3, (k.block r (Array.getElem?_eq_some_iff.1 h4).1 hr).trans h4, rest⟩

theorem MapAt.rangeL {k e t : TypeId} (h : MapAt enc D w b m) (ht : P.underlying t = some (.map k e)) :
    ∃ w', (Instr.range t (.map (some b))).run P w = .ok (.pointer (some ⟨w.heap.size, 0, none⟩)) w' ∧ MRangeL enc w' b w.heap.size m (m.map (·.1)) ∧ Keep Nb w w' ∧ w'.heap.size = w.heap.size + 1 := by
  obtain ⟨es, clock, hb, hm, hD, hn, hs, hc⟩ := h
  have hlt := (Array.getElem?_eq_some_iff.1 hb).1
  refine ⟨_, run_range_map w t k e b es clock ht hb, ⟨es, clock, clock, #[], clock, ((MapKept.heap_alloc w _).2 b hlt).trans hb, hm, hs, (MapKept.heap_alloc w _).1, hc, Nat.le_refl _, Nat.le_refl _, ?_⟩, (Keep.refl Nb w).alloc _, by simp⟩
  have hl : es.toList.length = m.length := by
    have := congrArg List.length hm
    rwa [List.length_map, List.length_map] at this
  unfold leftK
  rw [List.filter_eq_self.2 (fun p _ => by simp)]
  have e1 : (fun p : MapEntry × (α × Value) => p.2.1) = (fun q : α × Value => q.1) ∘ Prod.snd := rfl
  rw [e1, ← List.map_map, List.map_snd_zip (by omega)]

theorem MapAt.len {k e t : TypeId} (h : MapAt enc D w b m) (ht : P.underlying t = some (.map k e)) (ty : TypeId) : (Builtin.len_ #[t] ty #[.map (some b)]).run P w = .ok (.int .i64 (m.length : Nat)) w := by
  obtain ⟨es, clock, hb, hm, _⟩ := h
  have hl : es.size = m.length := by
    have := congrArg List.length hm
    rw [List.length_map, List.length_map] at this
    simpa using this
  rw [run_len_map w t ty b es clock (by simp [Program.mapKeyOf, Program.mapElemOf, ht]) hb, hl]
  rfl

theorem MRangeL.next [DecidableEq α] (h : MRangeL enc w b r m left) (hn : m.Pairwise (fun p q => p.1 ≠ q.1)) (hne : r ≠ b) (ty : TypeId) :
    (left = [] ∧ (Instr.next (.pointer (some ⟨r, 0, none⟩)) false ty).run P w = .ok (.tuple #[.bool false]) w) ∨
      ∃ p w', p ∈ m ∧ p.1 ∈ left ∧ (Instr.next (.pointer (some ⟨r, 0, none⟩)) false ty).run P w = .ok (.tuple #[.bool true, enc p.1, p.2]) w' ∧ MRangeL enc w' b r m (left.filter (fun x => decide (x ≠ p.1))) ∧ Keep (fun j => j = r) w w' ∧
        (Instr.entry (.pointer (some ⟨r, 0, none⟩))).run P w' = .ok (.tuple #[enc p.1, p.2]) w' := by
  obtain ⟨es, clock, since, seen, c0, hb, hm, hs, hr, hold, hsc, hsk, rfl⟩ := h
  have hl : es.toList.length = m.length := by
    have := congrArg List.length hm
    rwa [List.length_map, List.length_map] at this
  rcases run_next_at (P := P) w ty r b since c0 seen es clock hr hb hold hsc with ⟨h0, hrun⟩ | ⟨e, he, w1, hal, hrun⟩
  · refine .inl ⟨?_, hrun⟩
    unfold leftK
    rw [List.map_eq_nil_iff, List.filter_eq_nil_iff]
    intro p hp
    have h1 : p.1 ∈ es.toList := (List.of_mem_zip hp).1
    unfold leftOf at h0
    rw [Array.size_eq_zero_iff, Array.filter_eq_empty_iff] at h0
    exact h0 p.1 (by simpa using h1)
  · obtain ⟨hem, hes⟩ := mem_left he
    obtain ⟨i, hi⟩ := List.mem_iff_getElem?.1 hem
    have hil := (List.getElem?_eq_some_iff.1 hi).1
    obtain ⟨p, hpi⟩ : ∃ p, m[i]? = some p := ⟨_, List.getElem?_eq_getElem (by omega)⟩
    have hpe : e.key = enc p.1 ∧ e.val = p.2 := by
      have h5 : (es.toList.map (fun e => (e.key, e.val)))[i]? = some (e.key, e.val) := by simp [hi]
      rw [hm] at h5
      simp only [List.getElem?_map, hpi, Option.map_some, Option.some.injEq, Prod.mk.injEq] at h5
      exact ⟨h5.1.symm, h5.2.symm⟩
    have hz : (e, p) ∈ es.toList.zip m := List.mem_of_getElem? (i := i) (by
      rw [List.getElem?_zip_eq_some]; exact ⟨hi, hpi⟩)
    have hr1 : w1.heap[r]? = some (.mapIter (some b) since seen c0) := by rcases hal with rfl | rfl <;> exact hr
    have hb1 : w1.heap[b]? = some (.map es clock) := by rcases hal with rfl | rfl <;> exact hb
    have hset := MapKept.heap_set (o' := .mapIter (some b) since (seen.push e.born) clock) hr1
    have hb' : (ChangeMaps.setBlock w1 r (.mapIter (some b) since (seen.push e.born) clock)).heap[b]? = some (.map es clock) := (hset.2 b (fun e1 => hne e1.symm)).trans hb1
    refine .inr ⟨p, _, List.mem_of_getElem? hpi, List.mem_map.2 ⟨(e, p), List.mem_filter.2 ⟨hz, ?_⟩, rfl⟩, by rw [← hpe.1, ← hpe.2]; exact hrun, ⟨es, clock, since, seen.push e.born, clock, hb', hm, hs, hset.1, hold, hsk, hsk, ?_⟩, ?_, ?_⟩
    · simpa using hes
    · unfold leftK
      rw [List.filter_map, List.filter_filter]
      congr 1
      refine List.filter_congr fun q hq => ?_
      obtain ⟨j, hj⟩ := List.mem_iff_getElem?.1 hq
      rw [List.getElem?_zip_eq_some] at hj
      obtain ⟨hj1, hj2⟩ := hj
      have key : q.1.born = e.born ↔ q.2.1 = p.1 := by
        constructor
        · intro hbb
          have e1 : (es.toList.map (·.born))[j]? = some q.1.born := by simp [hj1]
          have e2 : (es.toList.map (·.born))[i]? = some e.born := by simp [hi]
          have : j = i := by
            obtain ⟨l1, _⟩ := List.getElem?_eq_some_iff.1 e1
            refine (List.getElem?_inj l1 hs).1 ?_
            rw [e1, e2, hbb]
          subst this
          rw [hj2] at hpi; cases hpi; rfl
        · intro hab
          have : j = i := by
            apply Classical.byContradiction
            intro hne
            rw [List.pairwise_iff_getElem] at hn
            obtain ⟨l1, q1⟩ := List.getElem?_eq_some_iff.1 hj2
            obtain ⟨l2, q2⟩ := List.getElem?_eq_some_iff.1 hpi
            rcases Nat.lt_or_gt_of_ne hne with hlt | hlt
            · exact hn j i l1 l2 hlt (by rw [q1, q2]; exact hab)
            · exact hn i j l2 l1 hlt (by rw [q1, q2]; exact hab.symm)
          subst this
          rw [hj1] at hi; cases hi; rfl
      simp only [Function.comp, Array.contains_push, Bool.not_or]
      by_cases hq1 : q.2.1 = p.1
      · have h2 := key.2 hq1
        simp [hq1, h2]
      · have h2 : ¬ q.1.born = e.born := fun h => hq1 (key.1 h)
        have h3 : (e.born == q.1.born) = false := by simpa using fun h => h2 h.symm
        have h4 : (q.1.born == e.born) = false := by simpa using h2
        simp [hq1, h2, h3, h4]
    · rcases hal with rfl | rfl
      · exact keep_setBlock hr
      · exact (keep_setBlock (w := w.drew) hr1 : Keep _ w.drew _) |> fun k => (Keep.refl _ w).drew.trans k
    · rw [← hpe.1, ← hpe.2]
      exact run_entry_at _ r b since seen es clock e hset.1 hb' hem hs
end

end Go.Proofs.Ytkpoobnldgfapab
