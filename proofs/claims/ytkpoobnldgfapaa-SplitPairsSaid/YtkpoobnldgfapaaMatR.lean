/- Rows of numbers that are only read once they are made. Nothing of one program stands here. -/
import Derived.Test.YtkpoobnldgfapaaMat
namespace Go.Proofs.Ytkpoobnldgfapaa
open Go.RowKit

structure MatR (F : Nat → Prop) (w : World) (T e : TypeId) (o : Option Addr) (n c : Nat) (rw_ : Nat → Rw) (f : Nat → List Nat) : Prop where
  out : Sl F w T 1 o n c ((List.range n).map (fun i => (rw_ i).val))
  row : ∀ i, i < n → Sl F w e 1 (rw_ i).o (f i).length (rw_ i).c (ints (f i))
  num : ∀ i, i < n → (rw_ i).n = (f i).length
  ne : ∀ i a, i < n → (rw_ i).o = some a → ¬ Bl o a.block

namespace MatR
variable {F : Nat → Prop} {w : World} {T e : TypeId} {o : Option Addr} {n c : Nat} {rw_ : Nat → Rw} {f : Nat → List Nat}

theorem nil (F : Nat → Prop) (w : World) (T e : TypeId) (rw_ : Nat → Rw) (f : Nat → List Nat) : MatR F w T e none 0 0 rw_ f :=
  ⟨Sl.nil F w T 1, fun _ h => absurd h (by omega), fun _ h => absurd h (by omega), fun _ _ h => absurd h (by omega)⟩

theorem of_heap {w' : World} (h : MatR F w T e o n c rw_ f) (he : ∀ k, k < w.heap.size → F k → w'.heap[k]? = w.heap[k]?) : MatR F w' T e o n c rw_ f :=
  ⟨h.out.of_heap he, fun i hi => (h.row i hi).of_heap he, h.num, h.ne⟩

theorem keep {G : Nat → Prop} {w' : World} (h : MatR F w T e o n c rw_ f) (k : Keep G w w') (d : ∀ k, F k → ¬ G k) : MatR F w' T e o n c rw_ f := h.of_heap fun i hi hF => k.block i hi (d i hF)
theorem mono {G : Nat → Prop} (h : MatR F w T e o n c rw_ f) (hG : ∀ k, F k → G k) : MatR G w T e o n c rw_ f := ⟨h.out.mono hG, fun i hi => (h.row i hi).mono hG, h.num, h.ne⟩
theorem alloc (h : MatR F w T e o n c rw_ f) (ob : Obj) : MatR F (w.alloc ob) T e o n c rw_ f := h.of_heap fun k hk _ => Below.heap_alloc w ob k hk
theorem drew (h : MatR F w T e o n c rw_ f) : MatR F w.drew T e o n c rw_ f := h.of_heap fun _ _ _ => rfl

theorem tight (h : MatR F w T e o n c rw_ f) : MatR (fun k => F k ∧ k < w.heap.size) w T e o n c rw_ f := ⟨h.out.tight, fun i hi => (h.row i hi).tight, h.num, h.ne⟩

/-- One row's header. -/
theorem cell (h : MatR F w T e o n c rw_ f) {i : Nat} (hi : i < n) : ∃ go, o = some ⟨go, 0, none⟩ ∧ n ≤ c ∧ F go ∧ w.cell? ⟨go, i, none⟩ = some (.slice (rw_ i).o (f i).length (rw_ i).c) := by
  obtain ⟨go, h1, h2, h3, h4⟩ := h.out.pos (by omega)
  refine ⟨go, h1, h3, h2, ?_⟩
  have := h4.cell (i := i) (v := (rw_ i).val) (by simp [hi])
  rw [this, Rw.val, h.num i hi]

/-- One row more. w1: where the row has been made; w': behind the append. -/
theorem push {w' : World} {g c' q cq : Nat} {oq : Option Addr} {l : List Nat} (h : MatR F w T e o n c rw_ f) (hq : q = l.length) (hr : Sl F w e 1 oq q cq (ints l)) (hne : ∀ a, oq = some a → ¬ Bl o a.block)
    (hS : Sl (fun k => F k ∨ k = w.heap.size + 1) w' T 1 (some ⟨g, 0, none⟩) (n + 1) c' ((List.range n).map (fun i => (rw_ i).val) ++ [.slice oq q cq])) (hk : Keep (Bl o) w w') (hg : o = some ⟨g, 0, none⟩ ∨ g = w.heap.size + 1) (hF : F (w.heap.size + 1)) :
    MatR F w' T e (some ⟨g, 0, none⟩) (n + 1) c' (fun i => if i = n then ⟨oq, q, cq⟩ else rw_ i) (fun i => if i = n then l else f i) := by
  subst hq
  have old : ∀ i a, i < n → (rw_ i).o = some a → a.block < w.heap.size := fun i a hi ha => (h.row i hi).lt ha
  refine ⟨?_, fun i hi => ?_, fun i hi => ?_, fun i a hi ha => ?_⟩
  · have e1 : (List.range (n + 1)).map (fun i => (if i = n then (⟨oq, l.length, cq⟩ : Rw) else rw_ i).val) = (List.range n).map (fun i => (rw_ i).val) ++ [.slice oq l.length cq] := by
      rw [List.range_succ, List.map_append]
      congr 1
      · refine List.map_congr_left fun i hi => ?_
        have := List.mem_range.1 hi
        rw [if_neg (by omega)]
      · simp [Rw.val]
    rw [e1]
    exact hS.mono fun k hk => hk.elim id (fun h => h ▸ hF)
  · by_cases hin : i = n
    · simp only [if_pos hin]
      exact hr.of_block fun a ha => hk.block _ (hr.lt ha) (hne a ha)
    · simp only [if_neg hin]
      have h1 := h.row i (by omega)
      exact h1.of_block fun a ha => hk.block _ (h1.lt ha) (h.ne i a (by omega) ha)
  · by_cases hin : i = n
    · simp only [if_pos hin]
    · simp only [if_neg hin]; exact h.num i (by omega)
  · rintro ⟨x, hx, hb⟩
    simp at hx; subst hx
    simp only at hb
    by_cases hin : i = n
    · simp only [if_pos hin] at ha
      rcases hg with hg | hg
      · exact hne a ha ⟨_, hg, hb⟩
      · have := hr.lt ha; omega
    · simp only [if_neg hin] at ha
      rcases hg with hg | hg
      · exact h.ne i a (by omega) ha ⟨_, hg, hb⟩
      · have := old i a (by omega) ha; omega
end MatR

end Go.Proofs.Ytkpoobnldgfapaa
