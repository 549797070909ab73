/- split: label. -/
import Derived.Test.YtkpoobnldgfapaaGraph12
import Derived.Test.YtkpoobnldgfapaaNew3
import Derived.Test.YtkpoobnldgfapaaSets4
import Derived.Test.YtkpoobnldgfapaaPlMenger
namespace Go.Proofs.Ytkpoobnldgfapaa
open Go.RowKit Pl

/-- The labels of a graph's nodes. -/
def labG (es : List E) : Nat → Nat := labs (ends es)

def LabelPost (w : World) (n : Nat) (es : List E) (e : Ending) (w' : World) : Prop :=
  ∃ o c, e = .returned (.slice o n c) ∧ Sl (fun k => w.heap.size ≤ k) w' 3 1 o n c (fints n (labG es)) ∧ Keep Nb w w'

theorem Sets.keep' {F G : Nat → Prop} {w w' : World} {b n : Nat} {L : Nat → Nat} (h : Sets F w b n L) (k : Keep G w w') (d : ∀ k, F k → ¬ G k) : Sets F w' b n L := by
  obtain ⟨up, size, low, many, ou, os, ol, cu, cs, cl, hM, hI, hn⟩ := h
  exact ⟨up, size, low, many, ou, os, ol, cu, cs, cl, hM.keep k d, hI, hn⟩

def LRel1 (w1 w2 : World) (F : Nat → Prop) (b n : Nat) (es : List E) (i : Nat) (wr : World) : Prop :=
  Sets F wr b n (labs (ends (es.take i))) ∧ Keep F w2 wr

theorem LRel1.next {w1 w2 wr w3 : World} {F : Nat → Prop} {b n i : Nat} {es : List E} {e : E} (h : LRel1 w1 w2 F b n es i wr) (he : es[i]? = some e)
    (hS : Sets F w3 b n (joinL (labs (ends (es.take i))) e.a e.b)) (k : Keep F wr w3) : LRel1 w1 w2 F b n es (i + 1) w3 := by
  refine ⟨?_, h.2.trans k⟩
  rw [List.take_add_one, he]
  unfold ends
  rw [List.map_append]
  exact (labs_snoc _ (e.a, e.b)) ▸ hS

end Go.Proofs.Ytkpoobnldgfapaa
