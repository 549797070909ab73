/- graph: Without. -/
import Derived.Test.YtkpoobnldgfapaaGraph10
namespace Go.Proofs.Ytkpoobnldgfapaa
open Go.RowKit Pl

/-- Without some edges, and without all edges of some nodes. -/
def keeps (ed nd : List Nat) (e : E) : Bool := !decide (e.id ∈ ed) && !decide (e.a ∈ nd) && !decide (e.b ∈ nd)
def withoutEs (ed nd : List Nat) (es : List E) : List E := es.filter (keeps ed nd)

def WRel (w : World) (n : Nat) (ed nd : List Nat) (es : List E) (i : Nat) (q : Nat) (wr : World) : Prop :=
  q = w.heap.size ∧ Gr (fun k => w.heap.size ≤ k) wr q n (withoutEs ed nd (es.take i)) ∧ Keep Nb w wr

def WithoutPost (w : World) (n : Nat) (ed nd : List Nat) (es : List E) (e : Ending) (w' : World) : Prop :=
  e = .returned (.pointer (some ⟨w.heap.size, 0, none⟩)) ∧ Gr (fun k => w.heap.size ≤ k) w' w.heap.size n (withoutEs ed nd es) ∧ Keep Nb w w'

theorem withoutEs_succ {ed nd : List Nat} {es : List E} {i : Nat} {e : E} (h : es[i]? = some e) : withoutEs ed nd (es.take (i + 1)) = withoutEs ed nd (es.take i) ++ (if keeps ed nd e then [e] else []) := by
  unfold withoutEs
  rw [List.take_add_one, h]
  simp [List.filter_append, List.filter_cons]

theorem withoutEs_len (ed nd : List Nat) (es : List E) : (withoutEs ed nd es).length ≤ es.length := List.length_filter_le _ _

/-- A round that takes none. -/
theorem WRel.skip {w wr w2 : World} {n : Nat} {ed nd : List Nat} {es : List E} {i q : Nat} {e : E} (h : WRel w n ed nd es i q wr) (he : es[i]? = some e) (hk : keeps ed nd e = false) (k : Keep Nb wr w2) : WRel w n ed nd es (i + 1) q w2 := by
  obtain ⟨h1, h2, h3⟩ := h
  refine ⟨h1, ?_, h3.trans k⟩
  rw [withoutEs_succ he, hk]
  simp only [Bool.false_eq_true, if_false, List.append_nil]
  exact h2.keep k (fun _ _ h => h)

/-- A round that takes one. -/
theorem WRel.take {w wr w2 w3 : World} {n : Nat} {ed nd : List Nat} {es : List E} {i : Nat} {e : E} {o : Option Addr} {c : Nat} (hF : Keep Nb w wr) (hM : GrMem (fun k => w.heap.size ≤ k) wr w.heap.size n (withoutEs ed nd (es.take i)) o c) (he : es[i]? = some e) (hk : keeps ed nd e = true)
    (k : Keep Nb wr w2) {g c' m : Nat} (hm : m = (withoutEs ed nd (es.take i)).length) (hS : Sl (fun k => w.heap.size ≤ k ∨ k = w2.heap.size + 1) w3 54 3 (some ⟨g, 0, none⟩) (m + 1) c' (ecs (withoutEs ed nd (es.take i)) ++ ecells e)) (hk3 : Keep (Bl o) w2 w3) (hg : o = some ⟨g, 0, none⟩ ∨ g = w2.heap.size + 1) :
    WRel w n ed nd es (i + 1) w.heap.size (w3.setCell ⟨w.heap.size, 1, none⟩ (.slice (some ⟨g, 0, none⟩) (m + 1) c')) := by
  have hsz := k.size
  have hF1 := hF.size
  have hlt := hM.head.lt
  have hbl : ∀ j, Bl o j → w.heap.size ≤ j ∧ j ≠ w.heap.size := by
    rintro j ⟨x, hx, rfl⟩
    exact ⟨hM.s.foot x hx, hM.d x hx⟩
  have hgq : g ≠ w.heap.size := by
    rcases hg with h | h
    · exact hM.d _ h
    · omega
  have hhead := (hM.head.keep k (fun h => h)).keep hk3 (fun h => (hbl _ h).2 rfl)
  have hes : withoutEs ed nd (es.take (i + 1)) = withoutEs ed nd (es.take i) ++ [e] := by rw [withoutEs_succ he, hk]; rfl
  have hlen : (withoutEs ed nd (es.take (i + 1))).length = m + 1 := by rw [hes, List.length_append, ← hm]; rfl
  refine ⟨rfl, ⟨some ⟨g, 0, none⟩, c', ?_, ?_, ?_, ?_⟩, ?_⟩
  · have := hhead.set (i := 1) (by simp) (.slice (some ⟨g, 0, none⟩) (m + 1) c')
    rw [hlen]
    exact this
  · exact Nat.le_refl _
  · rw [hlen, hes, ecs_append, ecs_cons, ecs_nil, List.append_nil]
    exact (hS.mono (G := fun k => w.heap.size ≤ k) (fun j hj => by rcases hj with h | h; exact h; omega)).set_ne (p := ⟨w.heap.size, 1, none⟩) (fun x hx => by cases hx; exact hgq) _
  · intro x hx; cases hx; exact hgq
  · exact ((hF.trans k).trans' hk3 (H := Nb) (fun _ _ h => h) (fun j hj h => by have := (hbl j h).1; omega)).setCell (.inr (Nat.le_refl _)) _

end Go.Proofs.Ytkpoobnldgfapaa
