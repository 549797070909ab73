/- append(append([]Edge{}, left[:k]...), left[k+1:]...): one edge less. -/
import Derived.Test.YtkpoobnldgfapaaDoorA5
set_option linter.unusedVariables false
set_option linter.unusedSimpArgs false
namespace Go.Proofs.YtkpoobnldgfapaaDoor
open Go.RowKit Pl

theorem run_append_none {P : Program} (w : World) (t ty e : TypeId) {z : Value} {size bytes : Nat} (ht : P.underlying t = some (.slice e)) (hE : ElemT P e z size bytes) (a b : Addr) (n c c2 : Nat) (hn : n ≤ c) :
    (Builtin.append_ #[t, t] ty #[.slice (some a) n c, .slice (some b) 0 c2]).run P w = .ok (.slice (some a) n c) w := by
  obtain ⟨i, hi, hz, hs, hb⟩ := info_parts hE
  have : ¬ c < n := by omega
  simp [Builtin.append_, run_underlying ht, sizeOf, typeInfo, hi, Builtin.lenOf, Builtin.firstCells, loadCells, loadCellsFrom, storeCells, this, hn]

/-- Onto a slice of one's own some edges of another row. -/
theorem app_edges {F G : Nat → Prop} {w : World} {o : Addr} {n c : Nat} {es fs : List E} (hS : Sl F w 55 3 (some o) n c (ecs es)) {g cg : Nat} {T : TypeId} {L : List E} (hR : Row w g T (ecs L)) (i m : Nat) (hm : fs = (L.drop i).take m) (hml : fs.length = m) (hle : n + m ≤ 1000) (a : Addr) (ha : 0 < m → a = ⟨g, i * 3, none⟩) (hF : ∀ k, F k → G k) (hG : ∀ k, w.heap.size ≤ k → G k) :
    ∃ o' c' w', (Builtin.append_ #[62, 62] 62 #[.slice (some o) n c, .slice (some a) m cg]).run Tryd.prog w = .ok (.slice (some o') (n + m) c') w' ∧ Sl G w' 55 3 (some o') (n + m) c' (ecs (es ++ fs)) ∧ Keep (Bl (some o)) w w' := by
  by_cases h0 : m = 0
  · subst h0
    have hf : fs = [] := List.eq_nil_of_length_eq_zero hml
    have hnc : n ≤ c := by
      rcases hS.own.2 with ⟨e, _⟩ | ⟨_, _, _, e, _, _, h1, _⟩
      · simp at e
      · simp only [Value.slice.injEq, true_and] at e
        rw [e.2]; exact h1
    exact ⟨o, c, w, run_append_none w _ _ _ und_edges elem_edge o a n c cg hnc, by rw [hf, List.append_nil]; exact hS.mono hF, Keep.refl _ _⟩
  · have ha' := ha (by omega)
    subst ha'
    have hcell : ∀ j u, (ecs fs)[j]? = some u → w.cell? ((⟨g, i * 3, none⟩ : Addr).add j) = some u := by
      intro j u hj
      rw [show (⟨g, i * 3, none⟩ : Addr).add j = ⟨g, i * 3 + j, none⟩ from by unfold Addr.add; split <;> simp_all]
      refine hR.cell ?_
      have hjl := (List.getElem?_eq_some_iff.1 hj).1
      rw [ecs_length, hml] at hjl
      rw [hm] at hj
      rw [ecs_take, List.getElem?_take, if_pos hjl, ecs_drop, List.getElem?_drop] at hj
      exact hj
    obtain ⟨g', c', w', h1, h2, h3, _⟩ := run_app (P := Tryd.prog) (w := w) 62 62 55 und_edges elem_edge (by rfl) (by omega) hS ⟨g, i * 3, none⟩ m cg (ecs fs) (by rw [ecs_length, hml]) hcell (ecs_one fs) (by simp only [maxLen]; omega) (by omega) (by omega)
    refine ⟨⟨g', 0, none⟩, c', w', h1, ?_, h3⟩
    rw [ecs_append]
    exact h2.mono (fun k hk => by rcases hk with h | h; exact hF k h; exact hG k (by omega))

/-- One edge is left out: what both appends leave (w: ahead of the new empty slice). -/
theorem cut_one2 {F : Nat → Prop} {w : World} {g cg k : Nat} {L : List E} (hS : Sl F w 55 3 (some ⟨g, 0, none⟩) L.length cg (ecs L)) (hk : k < L.length) (hl : L.length ≤ 1000) (a2 : Addr) (ha : k + 1 < L.length → a2 = ⟨g, (k + 1) * 3, none⟩) (c1 c2 : Nat) :
    ∃ o1 d1 w1 o2 d2 w2, (Builtin.append_ #[62, 62] 62 #[.slice (some ⟨w.heap.size, 0, none⟩) 0 0, .slice (some ⟨g, 0, none⟩) k c1]).run Tryd.prog (w.alloc (.cells #[] 55)) = .ok (.slice (some o1) k d1) w1 ∧
      (Builtin.append_ #[62, 62] 62 #[.slice (some o1) k d1, .slice (some a2) (L.length - (k + 1)) c2]).run Tryd.prog w1 = .ok (.slice (some o2) (L.length - 1) d2) w2 ∧
      Sl (fun j => w.heap.size ≤ j) w2 55 3 (some o2) (L.length - 1) d2 (ecs (L.take k ++ L.drop (k + 1))) ∧ Keep Nb w w2 ∧ Keep Nb w w1 := by
  have hS0 : Sl (fun j => w.heap.size ≤ j) (w.alloc (.cells #[] 55)) 55 3 (some ⟨w.heap.size, 0, none⟩) 0 0 (ecs []) :=
    ⟨⟨rfl, .inr ⟨w.heap.size, 0, _, rfl, Nat.zero_le _, heap_alloc_new w _, Nat.le_refl _, Nat.zero_le _, rfl, rfl⟩⟩, fun a ha => by cases ha; exact Nat.le_refl _⟩
  obtain ⟨g', e, _, _, hrow⟩ := hS.pos (by omega)
  cases e
  obtain ⟨o1, d1, w1, p1, p2, p3⟩ := app_edges (G := fun j => w.heap.size ≤ j) hS0 (hrow.alloc _) 0 k (fs := L.take k) (by rw [List.drop_zero]) (by rw [List.length_take]; omega) (by omega) ⟨g, 0, none⟩ (cg := c1) (fun _ => by simp) (fun _ h => h) (fun j h => by simp only [World.size_alloc] at h; omega)
  simp only [Nat.zero_add, List.nil_append] at p1 p2
  have hglt := hrow.lt
  have hk1 : Keep Nb w w1 := ((Keep.refl Nb w).alloc _).trans' p3 (fun _ _ e => e) (fun j hj hb => by
    obtain ⟨x, hx, hb⟩ := hb
    cases hx
    show False; simp only at hb; omega)
  obtain ⟨o2, d2, w2, q1, q2, q3⟩ := app_edges (G := fun j => w.heap.size ≤ j) p2 (hrow.keep hk1 (fun e => e)) (k + 1) (L.length - (k + 1)) (fs := L.drop (k + 1)) (List.take_of_length_le (by rw [List.length_drop]; exact Nat.le_refl _)).symm (by rw [List.length_drop]) (by omega) a2 (cg := c2) (fun h => ha (by omega)) (fun _ h => h) (fun j h => by have := hk1.size; omega)
  rw [show k + (L.length - (k + 1)) = L.length - 1 by omega] at q1 q2
  exact ⟨o1, d1, w1, o2, d2, w2, p1, q1, q2, hk1.trans' q3 (fun _ _ e => e) (fun j hj hb => by
    obtain ⟨x, hx, hb⟩ := hb
    have := p2.foot x hx
    show False; omega), hk1⟩

theorem cut_one {F : Nat → Prop} {w : World} {g cg k : Nat} {L : List E} (hS : Sl F w 55 3 (some ⟨g, 0, none⟩) L.length cg (ecs L)) (hk : k < L.length) (hl : L.length ≤ 1000) (a2 : Addr) (ha : k + 1 < L.length → a2 = ⟨g, (k + 1) * 3, none⟩) (c1 c2 : Nat) :
    ∃ o1 d1 w1 o2 d2 w2, (Builtin.append_ #[62, 62] 62 #[.slice (some ⟨w.heap.size, 0, none⟩) 0 0, .slice (some ⟨g, 0, none⟩) k c1]).run Tryd.prog (w.alloc (.cells #[] 55)) = .ok (.slice (some o1) k d1) w1 ∧
      (Builtin.append_ #[62, 62] 62 #[.slice (some o1) k d1, .slice (some a2) (L.length - (k + 1)) c2]).run Tryd.prog w1 = .ok (.slice (some o2) (L.length - 1) d2) w2 ∧
      Sl (fun j => w.heap.size ≤ j) w2 55 3 (some o2) (L.length - 1) d2 (ecs (L.take k ++ L.drop (k + 1))) ∧ Keep Nb w w2 := by
  obtain ⟨o1, d1, w1, o2, d2, w2, h1, h2, h3, h4, _⟩ := cut_one2 hS hk hl a2 ha c1 c2
  exact ⟨o1, d1, w1, o2, d2, w2, h1, h2, h3, h4⟩

end Go.Proofs.YtkpoobnldgfapaaDoor
