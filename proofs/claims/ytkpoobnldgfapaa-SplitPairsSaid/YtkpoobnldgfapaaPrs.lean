/- A slice of pairs of numbers, as an argument. -/
import Derived.Test.YtkpoobnldgfapaaMem
namespace Go.Proofs.Ytkpoobnldgfapaa
open Go.RowKit

/-- A slice of pairs of numbers, as it came. -/
structure Prs (w : World) (b off len : Nat) (A B : Nat → Int) : Prop where
  a : ∀ i, i < len → w.cell? ⟨b, off + i * 2, none⟩ = some (.int .i64 (A i))
  b : ∀ i, i < len → w.cell? ⟨b, off + i * 2 + 1, none⟩ = some (.int .i64 (B i))

theorem Prs.keep {F : Nat → Prop} {w w' : World} {b off len : Nat} {A B : Nat → Int} (h : Prs w b off len A B) (k : Keep F w w') (hb : ¬ F b) : Prs w' b off len A B :=
  ⟨fun i hi => k.cell (h.a i hi) hb, fun i hi => k.cell (h.b i hi) hb⟩

end Go.Proofs.Ytkpoobnldgfapaa
