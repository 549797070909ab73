/- graph: what stands about a graph, in the blocks that there are. -/
import Derived.Test.YtkpoobnldgfapabGreatDoorA5
import Derived.Deep.RegionHeld3
set_option linter.unusedVariables false
set_option linter.unusedSimpArgs false
namespace Go.Proofs.YtkpoobnldgfapabGreatDoor
open Go.RowKit Pl

theorem Gr.tightT {F : Nat → Prop} {w : World} {b n : Nat} {es : List E} (h : Gr F w b n es) : Gr (fun k => F k ∧ k < w.heap.size) w b n es := by
  obtain ⟨o, c, h⟩ := h; exact ⟨o, c, GrMem.tight h⟩

end Go.Proofs.YtkpoobnldgfapabGreatDoor
