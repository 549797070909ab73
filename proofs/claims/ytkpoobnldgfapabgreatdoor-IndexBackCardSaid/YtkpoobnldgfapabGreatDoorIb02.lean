/- Part 2 of the proof: AsErr. -/
import Derived.Test.YtkpoobnldgfapabGreatDoorIb01
import Derived.Test.YtkpoobnldgfapabGreatDoorProg
import Derived.LaidEql
import Derived.Stop.Asserts
import Derived.RowKitTokens
set_option linter.unusedVariables false
set_option linter.unusedSimpArgs false
namespace Go.Proofs.YtkpoobnldgfapabGreatDoor
open Go.RowKit Go.Extern.Stop Go.Stop Go.Extern
theorem As.mkE (p : Addr) (w : World) : (ReflectliteValue.mk 50 p ReflectliteValue.flagAddr).run Tryz.prog w = .ok (.agg #[.pointer (some ⟨9, 50, none⟩), .pointer (some p), .int .u64 386]) w := by kernel_rfl
def ErrT (w : World) : Prop := w.cell? ⟨0, 0, none⟩ = some (.iface 259 (.agg #[.pointer (some ⟨9, 44, none⟩)]))
theorem ErrT.keep {F : Nat → Prop} {w w' : World} (h : ErrT w) (k : Keep F w w') (h0 : ¬ F 0) : ErrT w' := k.cell h h0
def errV (r : Int) : Value := if r = 0 then .nilIface else .iface 50 (.int .i64 r)
end Go.Proofs.YtkpoobnldgfapabGreatDoor

