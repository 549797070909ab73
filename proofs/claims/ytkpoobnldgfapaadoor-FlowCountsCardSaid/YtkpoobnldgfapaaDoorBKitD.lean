/- A slice that has just been built (seats without split). -/
import Derived.Test.YtkpoobnldgfapaaDoorA1
set_option linter.unusedVariables false
set_option linter.unusedSimpArgs false
namespace Go.Proofs.YtkpoobnldgfapaaDoor
open Go.RowKit

theorem Sl.built (w : World) (T : TypeId) (sz n : Nat) (l : List Value) (hl : l.length = n * sz) (hn : n ≤ maxLen) :
    Sl (fun k => k = w.heap.size) (w.alloc (.cells l.toArray T)) T sz (some ⟨w.heap.size, 0, none⟩) n n l :=
  ⟨⟨hl, .inr ⟨w.heap.size, n, l.toArray, rfl, Nat.zero_le _, heap_alloc_new w _, Nat.le_refl _, hn, by simp [hl], by rw [← hl]; simp⟩⟩, fun a ha => by simp at ha; rw [← ha]⟩

end Go.Proofs.YtkpoobnldgfapaaDoor
