/- graph: slices.Insert of one edge. -/
import Derived.Test.YtkpoobnldgfapaaGraph3
import Derived.Test.YtkpoobnldgfapaaCopy
namespace Go.Proofs.Ytkpoobnldgfapaa
open Go.RowKit Pl

def ins (es : List E) (i : Nat) (e : E) : List E := es.take i ++ e :: es.drop i

theorem ins_end (es : List E) (e : E) : ins es es.length e = es ++ [e] := by simp [ins]
theorem ecs_ins (es : List E) (i : Nat) (e : E) : ecs (ins es i e) = ecs (es.take i) ++ (ecells e ++ ecs (es.drop i)) := by simp [ins, ecs_append, ecs_cons]
theorem ecs_take (es : List E) (i : Nat) : ecs (es.take i) = (ecs es).take (i * 3) := by
  induction es generalizing i with
  | nil => simp [ecs_nil]
  | cons e es ih =>
    cases i with
    | zero => simp [ecs_nil]
    | succ i =>
      have e0 : (i + 1) * 3 = i * 3 + 3 := by omega
      simp only [List.take_succ_cons, ecs_cons, ih, e0]
      simp [ecells, List.take_succ_cons]
theorem ecs_drop (es : List E) (i : Nat) : ecs (es.drop i) = (ecs es).drop (i * 3) := by
  induction es generalizing i with
  | nil => simp [ecs_nil]
  | cons e es ih =>
    cases i with
    | zero => simp [ecs_nil]
    | succ i =>
      have e0 : (i + 1) * 3 = i * 3 + 3 := by omega
      simp only [List.drop_succ_cons, ecs_cons, ih, e0]
      simp [ecells, List.drop_succ_cons]

def InsPost (F : Nat → Prop) (w : World) (o : Option Addr) (es : List E) (i : Nat) (e : E) (en : Ending) (w' : World) : Prop :=
  ∃ g c', en = .returned (.slice (some ⟨g, 0, none⟩) (es.length + 1) c') ∧ Sl (fun k => F k ∨ w.heap.size ≤ k) w' 54 3 (some ⟨g, 0, none⟩) (es.length + 1) c' (ecs (ins es i e)) ∧ Keep (Bl o) w w' ∧ (o = some ⟨g, 0, none⟩ ∨ w.heap.size ≤ g)

theorem elem_edge : ElemT Try.prog 54 (.agg #[.int .i64 0, .int .i64 0, .int .i64 0]) 3 24 := by unfold ElemT; kernel_rfl
theorem und_edges : (Try.prog).underlying 51 = some (.slice 54) := by kernel_rfl

set_option maxRecDepth 100000 in
theorem insert_end (F : Nat → Prop) (w : World) (o : Option Addr) (c : Nat) (es : List E) (vb : Nat) (e : E) (hS : Sl F w 54 3 o es.length c (ecs es)) (hn : es.length ≤ 1000)
    (hv : w.heap[vb]? = some (.cells (ecells e).toArray 54 (0, 0))) :
    Calls Try.prog 82 #[.slice o es.length c, .int .i64 es.length, .slice (some ⟨vb, 0, none⟩) 1 1] w (InsPost F w o es es.length e) := by
  have hcell : ∀ j u, (ecells e)[j]? = some u → w.cell? ((⟨vb, 0, none⟩ : Addr).add j) = some u := by
    intro j u hj
    rw [show (⟨vb, 0, none⟩ : Addr).add j = ⟨vb, j, none⟩ from by unfold Addr.add; split <;> simp_all]
    simp [World.cell?, hv]
    simpa using hj
  obtain ⟨g, c', w', h1, h2, h3, h4⟩ := run_app (P := Try.prog) (w := w) 51 51 54 und_edges elem_edge (by rfl) (by omega) hS ⟨vb, 0, none⟩ 1 1 (ecells e) rfl hcell
    (by intro u hu; exact ecs_one [e] u (by simpa [ecs] using hu)) (by simp only [maxLen]; omega) (by omega) (by omega)
  have hP : InsPost F w o es es.length e (.returned (.slice (some ⟨g, 0, none⟩) (es.length + 1) c')) w' := by
    refine ⟨g, c', rfl, ?_, h3, ?_⟩
    · rw [ins_end, ecs_append, ecs_cons, ecs_nil, List.append_nil]
      exact h2.mono (fun k hk => by rcases hk with h | h; exact .inl h; exact .inr (by omega))
    · rcases h4 with h | h
      · exact .inl h
      · exact .inr (by omega)
  have H1 := Lib.hid h1
  have HP := Lib.hid hP
  have hcs := hS.cases
  clear h1 hP h2 h3 h4 hcell hv hS
  rcases hcs with ⟨rfl, h0, rfl, _⟩ | ⟨g0, rfl, _, hnc, hcm, _⟩
  · obtain rfl := List.eq_nil_of_length_eq_zero h0
    simp only [List.length_nil, Nat.zero_add, Int.natCast_zero] at H1 HP ⊢
    go_enter Try.func82, Try.ntmps82
    go_wp2_with ((at_builtin; refine wpList_app rfl _ _ _ rfl rfl rfl H1.out ?_))
    go_ret
    exact HP.out
  · simp only [maxLen] at hcm
    by_cases hc : c = es.length
    · subst hc
      go_enter Try.func82, Try.ntmps82
      go_wp2_with ((at_builtin; refine wpList_app rfl _ _ _ rfl rfl rfl H1.out ?_))
      go_ret
      exact HP.out
    · have hc' : ¬ c - es.length = 0 := by omega
      go_enter Try.func82, Try.ntmps82
      go_wp2_with ((at_builtin; refine wpList_app rfl _ _ _ rfl rfl rfl H1.out ?_))
      go_ret
      exact HP.out

end Go.Proofs.Ytkpoobnldgfapaa
