/- graph: memory of a Graph; find. -/
import Derived.Test.YtkpoobnldgfapaaProg
import Derived.Test.YtkpoobnldgfapaaPlGraph
import Derived.Test.YtkpoobnldgfapaaApp
namespace Go.Proofs.Ytkpoobnldgfapaa
open Go.RowKit Pl

def ecells (e : E) : List Value := [.int .i64 e.id, .int .i64 e.a, .int .i64 e.b]
def ecs (es : List E) : List Value := es.flatMap ecells

theorem ecs_nil : ecs [] = [] := rfl
theorem ecs_cons (e : E) (es : List E) : ecs (e :: es) = ecells e ++ ecs es := rfl
theorem ecs_append (es fs : List E) : ecs (es ++ fs) = ecs es ++ ecs fs := by simp [ecs]
theorem ecs_length (es : List E) : (ecs es).length = es.length * 3 := by
  induction es with
  | nil => rfl
  | cons e es ih => rw [ecs_cons, List.length_append, ih]; simp [ecells]; omega
theorem ecs_get {es : List E} {i : Nat} {e : E} (h : es[i]? = some e) : (ecs es)[i * 3]? = some (.int .i64 e.id) ∧ (ecs es)[i * 3 + 1]? = some (.int .i64 e.a) ∧ (ecs es)[i * 3 + 2]? = some (.int .i64 e.b) := by
  induction es generalizing i with
  | nil => simp at h
  | cons f es ih =>
    cases i with
    | zero => simp at h; subst h; simp [ecs_cons, ecells]
    | succ i =>
      simp at h
      obtain ⟨h1, h2, h3⟩ := ih h
      rw [ecs_cons]
      have e0 : (i + 1) * 3 = i * 3 + 3 := by omega
      rw [e0]
      refine ⟨?_, ?_, ?_⟩
      · rw [List.getElem?_append_right (by simp [ecells])]; simpa [ecells] using h1
      · rw [List.getElem?_append_right (by simp [ecells])]; simpa [ecells] using h2
      · rw [List.getElem?_append_right (by simp [ecells])]; simpa [ecells] using h3
theorem ecs_one (es : List E) : ∀ u ∈ ecs es, u.oneCell' = true := by
  intro u hu
  obtain ⟨e, _, he⟩ := List.mem_flatMap.1 hu
  simp [ecells] at he
  rcases he with rfl | rfl | rfl <;> rfl

/-- The edges in a row, one by one. -/
structure ERow (w : World) (g : Nat) (es : List E) : Prop where
  id : ∀ i e, es[i]? = some e → w.cell? ⟨g, i * 3, none⟩ = some (.int .i64 e.id)
  a : ∀ i e, es[i]? = some e → w.cell? ⟨g, i * 3 + 1, none⟩ = some (.int .i64 e.a)
  b : ∀ i e, es[i]? = some e → w.cell? ⟨g, i * 3 + 2, none⟩ = some (.int .i64 e.b)

theorem Row.edges {w : World} {g : Nat} {T : TypeId} {es : List E} (h : Row w g T (ecs es)) : ERow w g es :=
  ⟨fun _ _ he => h.cell (ecs_get he).1, fun _ _ he => h.cell (ecs_get he).2.1, fun _ _ he => h.cell (ecs_get he).2.2⟩

theorem ERow.alloc {w : World} {g : Nat} {es : List E} (h : ERow w g es) (o : Obj) : ERow (w.alloc o) g es :=
  ⟨fun i e he => by have := h.id i e he; rw [World.cell?_alloc_past _ _ _ (World.block_lt_of_cell? w _ this)]; exact this,
   fun i e he => by have := h.a i e he; rw [World.cell?_alloc_past _ _ _ (World.block_lt_of_cell? w _ this)]; exact this,
   fun i e he => by have := h.b i e he; rw [World.cell?_alloc_past _ _ _ (World.block_lt_of_cell? w _ this)]; exact this⟩

theorem ERow.keep {F : Nat → Prop} {w w' : World} {g : Nat} {es : List E} (h : ERow w g es) (k : Keep F w w') (hg : ¬ F g) : ERow w' g es :=
  ⟨fun i e he => k.cell (h.id i e he) hg, fun i e he => k.cell (h.a i e he) hg, fun i e he => k.cell (h.b i e he) hg⟩

def cmpId (i : Nat) (t : Int) : Int := if (i : Int) < t then -1 else if t < (i : Int) then 1 else 0

theorem find1_any (id a b : Nat) (t : Int) (w : World) : Calls Try.prog 94 #[.agg #[.int .i64 id, .int .i64 a, .int .i64 b], .int .i64 t] w fun e w' => e = .returned (.int .i64 (cmpId id t)) ∧ Keep Nb w w' := by
  by_cases h1 : (id : Int) < t
  · have hc : cmpId id t = -1 := by unfold cmpId; rw [if_pos h1]
    have HC := Lib.hid hc
    clear hc
    go_enter Try.func94, Try.ntmps94
    go_wp2
    go_ret
    exact ⟨by rw [HC.out]; rfl, (Keep.refl Nb w).alloc _⟩
  · by_cases h2 : t < (id : Int)
    · have hc : cmpId id t = 1 := by unfold cmpId; rw [if_neg h1, if_pos h2]
      have HC := Lib.hid hc
      clear hc
      go_enter Try.func94, Try.ntmps94
      go_wp2
      go_ret
      exact ⟨by rw [HC.out]; rfl, (Keep.refl Nb w).alloc _⟩
    · have hc : cmpId id t = 0 := by unfold cmpId; rw [if_neg h1, if_neg h2]
      have HC := Lib.hid hc
      clear hc
      go_enter Try.func94, Try.ntmps94
      go_wp2
      go_ret
      exact ⟨by rw [HC.out]; rfl, (Keep.refl Nb w).alloc _⟩

end Go.Proofs.Ytkpoobnldgfapaa
