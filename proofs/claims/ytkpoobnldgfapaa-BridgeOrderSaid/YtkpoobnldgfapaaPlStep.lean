/- A bridge comes, or parts are one: what an edge does to the numbers; and at the end. -/
import Derived.Test.YtkpoobnldgfapaaP3
import Derived.Test.YtkpoobnldgfapaaB5
set_option linter.unusedVariables false
set_option linter.unusedSimpArgs false
namespace Go.Proofs.Ytkpoobnldgfapaa
open Go.RowKit Pl

theorem step_new {n : Nat} {fs gs : List E} {f : E} {T T' : Nat → Nat} {up up' : Nat → Option (Nat × Nat)} {l l' : List Nat} (hg : gs = fs ++ [f]) (hB : BInv n fs T up) (hB' : BInv n gs T' up') (h : BridgeIds fs l) (h' : BridgeIds gs l')
    (ha : f.a < n) (hb : f.b < n) (hid : ∀ e, e ∈ fs → e.id ≠ f.id) (hc : ¬ Conn (ends fs) f.a f.b) : l'.length = l.length + 1 ∧ (parts n T').length = (parts n T).length := by
  subst hg
  have c1 := h.count hB
  have c2 := h'.count hB'
  have c3 := whole_less ha hb hc
  have c4 := root_congr (hB.same_T hB' hid hc)
  rw [parts_length, parts_length]
  omega

theorem step_ring {n : Nat} {fs gs : List E} {f : E} {T T' : Nat → Nat} {up up' : Nat → Option (Nat × Nat)} {l l' : List Nat} (hg : gs = fs ++ [f]) (hB : BInv n fs T up) (hB' : BInv n gs T' up') (h : BridgeIds fs l) (h' : BridgeIds gs l')
    (hc : Conn (ends fs) f.a f.b) : ∃ W, (parts n T).length = W + l.length ∧ (parts n T').length = W + l'.length := by
  subst hg
  have c1 := h.count hB
  have c2 := h'.count hB'
  have c3 := whole_same (n := n) hc
  refine ⟨cnt n (isRoot (labs (ends fs))), ?_, ?_⟩
  · rw [parts_length]; omega
  · rw [parts_length]; omega

theorem end_ids {es fs : List E} {l l' : List Nat} (h : Pl.Alike es fs) (h1 : BridgeIds es l) (h2 : BridgeIds fs l') : l = l' :=
  h1.unique h2 fun id => (h1.mem id).trans ((h.ids id).symm.trans (h2.mem id).symm)

theorem end_wholes {n : Nat} {es fs : List E} (h : Pl.Alike es fs) : parts n (labs (ends es)) = parts n (labs (ends fs)) :=
  parts_congr fun x _ => labs_congr (fun _ _ => h.conn.symm) x

theorem end_parts {n : Nat} {es fs : List E} {T T' : Nat → Nat} {up up' : Nat → Option (Nat × Nat)} (h : Pl.Alike es fs) (hB : BInv n es T up) (hB' : BInv n fs T' up') : parts n T = parts n T' :=
  parts_congr (h.T hB hB')

theorem end_sum {n : Nat} {es : List E} {T : Nat → Nat} {up : Nat → Option (Nat × Nat)} {l : List Nat} (hB : BInv n es T up) (h : BridgeIds es l) : (parts n T).length = (parts n (labs (ends es))).length + l.length := by
  rw [parts_length, parts_length]; exact h.count hB

end Go.Proofs.Ytkpoobnldgfapaa
