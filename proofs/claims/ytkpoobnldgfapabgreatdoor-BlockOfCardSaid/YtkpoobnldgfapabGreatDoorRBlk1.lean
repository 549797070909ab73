/- isthmusref: Blocks: what its walk holds. -/
import Derived.Test.YtkpoobnldgfapabGreatDoorRTwos
import Derived.Test.YtkpoobnldgfapabGreatDoorRCuts
import Derived.Test.YtkpoobnldgfapabGreatDoorRSort
import Derived.Test.YtkpoobnldgfapabGreatDoorD1
import Derived.Test.YtkpoobnldgfapabGreatDoorMake
import Derived.BigRegion
set_option linter.unusedVariables false
set_option linter.unusedSimpArgs false
namespace Go.Proofs.YtkpoobnldgfapabGreatDoor
open Go.RowKit Pl

theorem LRows.app {F : Nat → Prop} {w : World} {n m c q cq : Nat} {o : Option Addr} {fs : List (Nat → Nat)} {L : Nat → Nat} (h : LRows F w n o m c fs) (hm : m ≤ 100000) (hr : Sl F w 3 1 (some ⟨q, 0, none⟩) n cq (fints n L)) (hne : ¬ Bl o q) (hF : F (w.heap.size + 1)) :
    ∃ g c' w', (Builtin.append_ #[29, 29] 29 #[.slice o m c, .slice (some ⟨w.heap.size, 0, none⟩) 1 1]).run Tryz.prog (w.alloc (.cells #[.slice (some ⟨q, 0, none⟩) n cq] 33)) = .ok (.slice (some ⟨g, 0, none⟩) (m + 1) c') w' ∧
      LRows F w' n (some ⟨g, 0, none⟩) (m + 1) c' (fs ++ [L]) ∧ Keep (Bl o) w w' := by
  obtain ⟨h1, a, b, h2, h3⟩ := h
  obtain ⟨g, c', w', r1, r2, r3, r4⟩ := run_app1 (P := Tryz.prog) 29 29 33 (by kernel_rfl) elem_ints (by rfl) h3.out (.slice (some ⟨q, 0, none⟩) n cq) rfl (by omega) (by omega)
  refine ⟨g, c', w', r1, ⟨by rw [List.length_append, h1]; rfl, _, _, fun i l' hi => ?_, h3.push (l := (List.range n).map L) (by simp) hr (fun a ha hb => hne (by cases ha; exact hb)) r2 r3 r4 hF⟩, r3⟩
  by_cases e : i = m
  · subst e
    simp only [if_pos rfl]
    rw [List.getElem?_append_right (by omega), h1, Nat.sub_self] at hi
    simp at hi; rw [hi]; simp
  · simp only [if_neg e]
    have hlt : i < m := by
      have := (List.getElem?_eq_some_iff.1 hi).1
      rw [List.length_append, h1] at this
      simp at this; omega
    rw [List.getElem?_append_left (by omega)] at hi
    exact h2 i l' hi

/-- Who is with whom without a node. -/
def rowsN (fs : List E) (k : Nat) : List (Nat → Nat) := (List.range k).map (fun x => labG (withoutEs [] [x] fs))

theorem rowsN_succ (fs : List E) (k : Nat) : rowsN fs (k + 1) = rowsN fs k ++ [labG (withoutEs [] [k] fs)] := by unfold rowsN; rw [List.range_succ, List.map_append]; rfl
theorem rowsN_get {fs : List E} {k x : Nat} (h : x < k) : (rowsN fs k)[x]? = some (labG (withoutEs [] [x] fs)) := by unfold rowsN; simp [h]

theorem conn_lessN {es fs : List E} (hp : es.Perm fs) {z x y : Nat} : labG (withoutEs [] [z] fs) x = labG (withoutEs [] [z] fs) y ↔ Conn (ends (less1 es z)) x y := by
  have e1 : ∀ e, e ∈ withoutEs [] [z] fs ↔ e ∈ less1 es z := fun e => by
    unfold withoutEs less1
    rw [List.mem_filter, List.mem_filter, hp.mem_iff]
    refine and_congr Iff.rfl ?_
    unfold keeps
    simp
  constructor
  · intro h
    exact Conn.of_sub (fun e he => (e1 e).1 he) (h : Conn (ends (withoutEs [] [z] fs)) x y)
  · intro h
    exact (Conn.of_sub (fun e he => (e1 e).2 he) h : Conn (ends (withoutEs [] [z] fs)) x y)

set_option maxRecDepth 100000 in
theorem rother_any (w : World) (id a b x : Nat) (t : Nat) (ht : a + b = t + x) (hb : a ≤ 1000 ∧ b ≤ 1000) :
    Calls Tryz.prog 107 #[.agg #[.int .i64 id, .int .i64 a, .int .i64 b], .int .i64 x] w fun e w' => e = .returned (.int .i64 (t : Nat)) ∧ Keep Nb w w' := by
  have e1 : (a : Int) + (b : Int) - (x : Int) = (t : Int) := by omega
  go_enter Tryz.func107, Tryz.ntmps107
  go_wp2_with fail
  go_ret
  exact ⟨rfl, (Keep.refl Nb w).alloc _⟩

/-- The labels in the midst of a pass. -/
def PS (m : Nat) (b0 b : Nat → Nat) (more : Bool) (C : Prop) : Prop := (more = true ∧ sumB m b < sumB m b0) ∨ (more = false ∧ b = b0 ∧ C)

/-- Nothing falls at the edges that were looked at. -/
def CF (es : List E) (b : Nat → Nat) (i : Nat) : Prop := ∀ i' k' e f, i' < i → es[i']? = some e → es[k']? = some f → StepB es e f → ¬ b i' < b k'
def CFk (es : List E) (b : Nat → Nat) (i k : Nat) : Prop := ∀ k' e f, k' < k → es[i]? = some e → es[k']? = some f → StepB es e f → ¬ b i < b k'
def CFw (es : List E) (b : Nat → Nat) (i k : Nat) (e f : E) (j : Nat) : Prop := ∀ j' z, j' < j → [e.a, e.b][j']? = some z → touch f z → Conn (ends (less1 es z)) (othE e z) (othE f z) → ¬ b i < b k

theorem CF.next {es : List E} {b : Nat → Nat} {i : Nat} (h : CF es b i) (hk : CFk es b i es.length) : CF es b (i + 1) := fun i' k' e f hi he hf hs => by
  by_cases e1 : i' = i
  · subst e1; exact hk k' e f (List.getElem?_eq_some_iff.1 hf).1 he hf hs
  · exact h i' k' e f (by omega) he hf hs
theorem CFk.next {es : List E} {b : Nat → Nat} {i k : Nat} {e f : E} (h : CFk es b i k) (he : es[i]? = some e) (hf : es[k]? = some f) (hw : CFw es b i k e f 2) : CFk es b i (k + 1) := fun k' e' f' hk he' hf' hs => by
  by_cases e1 : k' = k
  · subst e1
    rw [he] at he'; cases he'
    rw [hf] at hf'; cases hf'
    obtain ⟨z, h1, h2, h3⟩ := hs
    rcases h1 with h1 | h1
    · exact hw 0 z (by omega) (by rw [← h1]; rfl) h2 h3
    · exact hw 1 z (by omega) (by rw [← h1]; rfl) h2 h3
  · exact h k' e' f' (by omega) he' hf' hs
theorem CFw.next {es : List E} {b : Nat → Nat} {i k j z : Nat} {e f : E} (h : CFw es b i k e f j) (hz : [e.a, e.b][j]? = some z) (hn : touch f z → Conn (ends (less1 es z)) (othE e z) (othE f z) → ¬ b i < b k) : CFw es b i k e f (j + 1) := fun j' z' hj hz' ht hc => by
  by_cases e1 : j' = j
  · subst e1
    rw [hz] at hz'; cases hz'
    exact hn ht hc
  · exact h j' z' (by omega) hz' ht hc

theorem CF.done {es : List E} {b : Nat → Nat} (h : CF es b es.length) : FixDone es b := fun i k e f hi hk hs => h i k e f (List.getElem?_eq_some_iff.1 hi).1 hi hk hs

/-- The labels in memory. -/
structure LbRel (w5 wr : World) (bb m : Nat) (es : List E) (b : Nat → Nat) : Prop where
  row : Row wr bb 3 (fints m b)
  inv : FixInv es b
  keep : Keep (fun k => k = bb) w5 wr

theorem LbRel.next {w5 wr w' : World} {bb m : Nat} {es : List E} {b : Nat → Nat} (h : LbRel w5 wr bb m es b) (k : Keep Nb wr w') : LbRel w5 w' bb m es b := ⟨h.row.keep k (fun e => e), h.inv, h.keep.trans k.of_nb⟩

end Go.Proofs.YtkpoobnldgfapabGreatDoor
