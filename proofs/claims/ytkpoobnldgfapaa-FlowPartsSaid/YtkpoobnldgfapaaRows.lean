/-
  No cell of these rows narrows 'for every input' (looked for: loops, veiled, ifaces, maps, wideKeys, modest, calm, conditions, laid).
  DERIVED. THE GIVEN ROWS OF THIS SEAT. 7 by the template 'for every input the law returns true; each argument reads behind the call as it read before'; 0 by the template 'total and deterministic' (their statements: YtkpoobnldgfapaaTotals.lean).
  GIVEN WITH THE SEED: the statements are not yours to turn. If you find one false, say at which input.
  Laid BY PROGRAM, IN A SANDBOX (cutbox-rows.mjs): the forced cells as the released guide's own fill.sh prints them over the translation 94d7b53d72a0cfbb… (all of the seat's roots in one cut). By AI agents, Wed Nov 11 2026. No macro, syntax, notation, axiom, sorry.
-/
import Derived.Test.YtkpoobnldgfapaaChecked
import GoSem.Claim
import GoSem.ClaimJoined
import GoSem.ClaimMapViews
import Derived.JoinedTies
import Derived.KernelRfl
namespace Go.Proofs.Ytkpoobnldgfapaa
/- THE CELL 'sum', in the pinned program and in every row, IS THE sha256 OF THE DUMP (.gsa) THAT YtkpoobnldgfapaaProg.lean LOADS. Nothing in Lean hashes anything: it is a label: what it is worth is what the hold of that sum in a sandbox is worth. -/
noncomputable def Try.pinned : Pinned := { name := "ytkpoobnldgfapaa", sum := "94d7b53d72a0cfbb68b83a75a59d121dd236297657ad6f9757245301f86c4c66", checked := Try.checked }
namespace Rows
def none {H : Type} : Left H := { results := [], args := [] }

/-- 'isthmuskeep.SetsOrder': WHATEVER THE INPUT: true; the input reads as it did. -/
def setsOrderSpec : ChangeSpec := { name := "setsOrder", fn := fun _ => fun
  | [d1, d2, d3] => { results := [.lit (.bool true)], args := [d1, d2, d3] }
  | _ => none }
def setsOrderRow : OpenClaim := { program := "ytkpoobnldgfapaa", sum := "94d7b53d72a0cfbb68b83a75a59d121dd236297657ad6f9757245301f86c4c66", func := "isthmus/isthmuskeep.SetsOrder", spec := "setsOrder", unfollowed := true, recurses := true, plainKeys := false, apart := false }
def SetsOrderSaid : Prop := setsOrderRow.holds Try.pinned (OpenSpec.ofChange setsOrderSpec)

/-- ITS FALSE NEIGHBOUR: 'it returns false'. Refute it at one input. -/
def setsOrderWrong : ChangeSpec := { name := "setsOrder", fn := fun _ => fun
  | [d1, d2, d3] => { results := [.lit (.bool false)], args := [d1, d2, d3] }
  | _ => none }
def SetsOrderWrongFalsely : Prop := setsOrderRow.holds Try.pinned (OpenSpec.ofChange setsOrderWrong)

/-- 'isthmuslaw.SplitPairs': WHATEVER THE INPUT: true; the input reads as it did. -/
def splitPairsSpec : ChangeSpec := { name := "splitPairs", fn := fun _ => fun
  | [d1, d2] => { results := [.lit (.bool true)], args := [d1, d2] }
  | _ => none }
def splitPairsRow : OpenClaim := { program := "ytkpoobnldgfapaa", sum := "94d7b53d72a0cfbb68b83a75a59d121dd236297657ad6f9757245301f86c4c66", func := "isthmus/isthmuslaw.SplitPairs", spec := "splitPairs", inPlace := ["slices.overlaps[isthmus/api.Edge]"], unfollowed := true, recurses := true, plainKeys := false, apart := false }
def SplitPairsSaid : Prop := splitPairsRow.holds Try.pinned (OpenSpec.ofChange splitPairsSpec)

/-- ITS FALSE NEIGHBOUR: 'it returns false'. Refute it at one input. -/
def splitPairsWrong : ChangeSpec := { name := "splitPairs", fn := fun _ => fun
  | [d1, d2] => { results := [.lit (.bool false)], args := [d1, d2] }
  | _ => none }
def SplitPairsWrongFalsely : Prop := splitPairsRow.holds Try.pinned (OpenSpec.ofChange splitPairsWrong)

/-- 'isthmuskeep.FlowHolds': WHATEVER THE INPUT: true; the input reads as it did. -/
def flowHoldsSpec : ChangeSpec := { name := "flowHolds", fn := fun _ => fun
  | [d1, d2, d3, d4] => { results := [.lit (.bool true)], args := [d1, d2, d3, d4] }
  | _ => none }
def flowHoldsRow : OpenClaim := { program := "ytkpoobnldgfapaa", sum := "94d7b53d72a0cfbb68b83a75a59d121dd236297657ad6f9757245301f86c4c66", func := "isthmus/isthmuskeep.FlowHolds", spec := "flowHolds", inPlace := ["slices.overlaps[isthmus/api.Edge]"], unfollowed := true, recurses := true, plainKeys := false, apart := false }
def FlowHoldsSaid : Prop := flowHoldsRow.holds Try.pinned (OpenSpec.ofChange flowHoldsSpec)

/-- ITS FALSE NEIGHBOUR: 'it returns false'. Refute it at one input. -/
def flowHoldsWrong : ChangeSpec := { name := "flowHolds", fn := fun _ => fun
  | [d1, d2, d3, d4] => { results := [.lit (.bool false)], args := [d1, d2, d3, d4] }
  | _ => none }
def FlowHoldsWrongFalsely : Prop := flowHoldsRow.holds Try.pinned (OpenSpec.ofChange flowHoldsWrong)

/-- 'isthmuskeep.SplitParts': WHATEVER THE INPUT: true; the input reads as it did. -/
def splitPartsSpec : ChangeSpec := { name := "splitParts", fn := fun _ => fun
  | [d1, d2] => { results := [.lit (.bool true)], args := [d1, d2] }
  | _ => none }
def splitPartsRow : OpenClaim := { program := "ytkpoobnldgfapaa", sum := "94d7b53d72a0cfbb68b83a75a59d121dd236297657ad6f9757245301f86c4c66", func := "isthmus/isthmuskeep.SplitParts", spec := "splitParts", inPlace := ["slices.overlaps[isthmus/api.Edge]"], unfollowed := true, recurses := true, plainKeys := false, apart := false }
def SplitPartsSaid : Prop := splitPartsRow.holds Try.pinned (OpenSpec.ofChange splitPartsSpec)

/-- ITS FALSE NEIGHBOUR: 'it returns false'. Refute it at one input. -/
def splitPartsWrong : ChangeSpec := { name := "splitParts", fn := fun _ => fun
  | [d1, d2] => { results := [.lit (.bool false)], args := [d1, d2] }
  | _ => none }
def SplitPartsWrongFalsely : Prop := splitPartsRow.holds Try.pinned (OpenSpec.ofChange splitPartsWrong)

/-- 'isthmuskeep.FlowParts': WHATEVER THE INPUT: true; the input reads as it did. -/
def flowPartsSpec : ChangeSpec := { name := "flowParts", fn := fun _ => fun
  | [d1, d2] => { results := [.lit (.bool true)], args := [d1, d2] }
  | _ => none }
def flowPartsRow : OpenClaim := { program := "ytkpoobnldgfapaa", sum := "94d7b53d72a0cfbb68b83a75a59d121dd236297657ad6f9757245301f86c4c66", func := "isthmus/isthmuskeep.FlowParts", spec := "flowParts", inPlace := ["slices.overlaps[isthmus/api.Edge]"], unfollowed := true, recurses := true, plainKeys := false, apart := false }
def FlowPartsSaid : Prop := flowPartsRow.holds Try.pinned (OpenSpec.ofChange flowPartsSpec)

/-- ITS FALSE NEIGHBOUR: 'it returns false'. Refute it at one input. -/
def flowPartsWrong : ChangeSpec := { name := "flowParts", fn := fun _ => fun
  | [d1, d2] => { results := [.lit (.bool false)], args := [d1, d2] }
  | _ => none }
def FlowPartsWrongFalsely : Prop := flowPartsRow.holds Try.pinned (OpenSpec.ofChange flowPartsWrong)

/-- 'isthmuskeep.BridgeOrder': WHATEVER THE INPUT: true; the input reads as it did. -/
def bridgeOrderSpec : ChangeSpec := { name := "bridgeOrder", fn := fun _ => fun
  | [d1, d2, d3] => { results := [.lit (.bool true)], args := [d1, d2, d3] }
  | _ => none }
def bridgeOrderRow : OpenClaim := { program := "ytkpoobnldgfapaa", sum := "94d7b53d72a0cfbb68b83a75a59d121dd236297657ad6f9757245301f86c4c66", func := "isthmus/isthmuskeep.BridgeOrder", spec := "bridgeOrder", inPlace := ["slices.overlaps[isthmus/api.Edge]"], unfollowed := true, recurses := true, plainKeys := false, apart := false }
def BridgeOrderSaid : Prop := bridgeOrderRow.holds Try.pinned (OpenSpec.ofChange bridgeOrderSpec)

/-- ITS FALSE NEIGHBOUR: 'it returns false'. Refute it at one input. -/
def bridgeOrderWrong : ChangeSpec := { name := "bridgeOrder", fn := fun _ => fun
  | [d1, d2, d3] => { results := [.lit (.bool false)], args := [d1, d2, d3] }
  | _ => none }
def BridgeOrderWrongFalsely : Prop := bridgeOrderRow.holds Try.pinned (OpenSpec.ofChange bridgeOrderWrong)

/-- 'isthmuskeep.CycleSums': WHATEVER THE INPUT: true; the input reads as it did. -/
def cycleSumsSpec : ChangeSpec := { name := "cycleSums", fn := fun _ => fun
  | [d1, d2] => { results := [.lit (.bool true)], args := [d1, d2] }
  | _ => none }
def cycleSumsRow : OpenClaim := { program := "ytkpoobnldgfapaa", sum := "94d7b53d72a0cfbb68b83a75a59d121dd236297657ad6f9757245301f86c4c66", func := "isthmus/isthmuskeep.CycleSums", spec := "cycleSums", inPlace := ["slices.overlaps[isthmus/api.Edge]"], unfollowed := true, recurses := true, plainKeys := false, apart := false }
def CycleSumsSaid : Prop := cycleSumsRow.holds Try.pinned (OpenSpec.ofChange cycleSumsSpec)

/-- ITS FALSE NEIGHBOUR: 'it returns false'. Refute it at one input. -/
def cycleSumsWrong : ChangeSpec := { name := "cycleSums", fn := fun _ => fun
  | [d1, d2] => { results := [.lit (.bool false)], args := [d1, d2] }
  | _ => none }
def CycleSumsWrongFalsely : Prop := cycleSumsRow.holds Try.pinned (OpenSpec.ofChange cycleSumsWrong)

/- THE SECOND FORM. 'bulk': how many values and letters a reading holds, each counted each time it is reached (what is shared counts as often as it is met; a slice's spare places count too). A statement '..UptoSaid' is the law's where the arguments, and the package variables that the reading takes, are together of bulk at most 1048576: NARROWER than '..Said'. Prove '..Said' where nothing that the law and all that it calls make is longer than what came in: it says more and counts as full. Else prove '..UptoSaid'. A law counts once. -/
mutual
def uptoBulk {H : Type} : DataW H → Nat
  | .lit (.string bytes) => bytes.length + 1
  | .lit _ => 1
  | .nil => 1
  | .ptr d => uptoBulk d + 1
  | .slice elems spare => uptoBulkAll elems + uptoBulkAll spare + 1
  | .agg parts => uptoBulkAll parts + 1
  | .iface _ d => uptoBulk d + 1
  | .map entries => uptoBulkEntries entries + 1
  | .held _ => 1
def uptoBulkAll {H : Type} : List (DataW H) → Nat
  | [] => 0
  | d :: r => uptoBulk d + uptoBulkAll r
def uptoBulkEntries {H : Type} : List (Lit × DataW H) → Nat
  | [] => 0
  | x :: r => uptoBulkEntry x + uptoBulkEntries r
def uptoBulkEntry {H : Type} : Lit × DataW H → Nat
  | (.string bytes, d) => bytes.length + uptoBulk d + 1
  | (_, d) => uptoBulk d + 1
 end
def uptoSmall : (H : Type) → List (DataW H) → Bool := fun _ ds => decide (uptoBulkAll ds ≤ 1048576)
def OpenSpec.upto (s : _root_.Go.ChangeSpec) : _root_.Go.OpenSpec := { _root_.Go.OpenSpec.ofChange s with cond := some uptoSmall }

/-- 'isthmuskeep.SetsOrder', WHERE WHAT IT READS IS OF BULK AT MOST 1048576: true; the input reads as it did. -/
def setsOrderUptoRow : OpenClaim := { program := "ytkpoobnldgfapaa", sum := "94d7b53d72a0cfbb68b83a75a59d121dd236297657ad6f9757245301f86c4c66", func := "isthmus/isthmuskeep.SetsOrder", spec := "setsOrder", unfollowed := true, recurses := true, plainKeys := false, apart := false, narrowed := true }
def SetsOrderUptoSaid : Prop := setsOrderUptoRow.holds Try.pinned (OpenSpec.upto setsOrderSpec)

/-- 'isthmuslaw.SplitPairs', WHERE WHAT IT READS IS OF BULK AT MOST 1048576: true; the input reads as it did. -/
def splitPairsUptoRow : OpenClaim := { program := "ytkpoobnldgfapaa", sum := "94d7b53d72a0cfbb68b83a75a59d121dd236297657ad6f9757245301f86c4c66", func := "isthmus/isthmuslaw.SplitPairs", spec := "splitPairs", inPlace := ["slices.overlaps[isthmus/api.Edge]"], unfollowed := true, recurses := true, plainKeys := false, apart := false, narrowed := true }
def SplitPairsUptoSaid : Prop := splitPairsUptoRow.holds Try.pinned (OpenSpec.upto splitPairsSpec)

/-- 'isthmuskeep.FlowHolds', WHERE WHAT IT READS IS OF BULK AT MOST 1048576: true; the input reads as it did. -/
def flowHoldsUptoRow : OpenClaim := { program := "ytkpoobnldgfapaa", sum := "94d7b53d72a0cfbb68b83a75a59d121dd236297657ad6f9757245301f86c4c66", func := "isthmus/isthmuskeep.FlowHolds", spec := "flowHolds", inPlace := ["slices.overlaps[isthmus/api.Edge]"], unfollowed := true, recurses := true, plainKeys := false, apart := false, narrowed := true }
def FlowHoldsUptoSaid : Prop := flowHoldsUptoRow.holds Try.pinned (OpenSpec.upto flowHoldsSpec)

/-- 'isthmuskeep.SplitParts', WHERE WHAT IT READS IS OF BULK AT MOST 1048576: true; the input reads as it did. -/
def splitPartsUptoRow : OpenClaim := { program := "ytkpoobnldgfapaa", sum := "94d7b53d72a0cfbb68b83a75a59d121dd236297657ad6f9757245301f86c4c66", func := "isthmus/isthmuskeep.SplitParts", spec := "splitParts", inPlace := ["slices.overlaps[isthmus/api.Edge]"], unfollowed := true, recurses := true, plainKeys := false, apart := false, narrowed := true }
def SplitPartsUptoSaid : Prop := splitPartsUptoRow.holds Try.pinned (OpenSpec.upto splitPartsSpec)

/-- 'isthmuskeep.FlowParts', WHERE WHAT IT READS IS OF BULK AT MOST 1048576: true; the input reads as it did. -/
def flowPartsUptoRow : OpenClaim := { program := "ytkpoobnldgfapaa", sum := "94d7b53d72a0cfbb68b83a75a59d121dd236297657ad6f9757245301f86c4c66", func := "isthmus/isthmuskeep.FlowParts", spec := "flowParts", inPlace := ["slices.overlaps[isthmus/api.Edge]"], unfollowed := true, recurses := true, plainKeys := false, apart := false, narrowed := true }
def FlowPartsUptoSaid : Prop := flowPartsUptoRow.holds Try.pinned (OpenSpec.upto flowPartsSpec)

/-- 'isthmuskeep.BridgeOrder', WHERE WHAT IT READS IS OF BULK AT MOST 1048576: true; the input reads as it did. -/
def bridgeOrderUptoRow : OpenClaim := { program := "ytkpoobnldgfapaa", sum := "94d7b53d72a0cfbb68b83a75a59d121dd236297657ad6f9757245301f86c4c66", func := "isthmus/isthmuskeep.BridgeOrder", spec := "bridgeOrder", inPlace := ["slices.overlaps[isthmus/api.Edge]"], unfollowed := true, recurses := true, plainKeys := false, apart := false, narrowed := true }
def BridgeOrderUptoSaid : Prop := bridgeOrderUptoRow.holds Try.pinned (OpenSpec.upto bridgeOrderSpec)

/-- 'isthmuskeep.CycleSums', WHERE WHAT IT READS IS OF BULK AT MOST 1048576: true; the input reads as it did. -/
def cycleSumsUptoRow : OpenClaim := { program := "ytkpoobnldgfapaa", sum := "94d7b53d72a0cfbb68b83a75a59d121dd236297657ad6f9757245301f86c4c66", func := "isthmus/isthmuskeep.CycleSums", spec := "cycleSums", inPlace := ["slices.overlaps[isthmus/api.Edge]"], unfollowed := true, recurses := true, plainKeys := false, apart := false, narrowed := true }
def CycleSumsUptoSaid : Prop := cycleSumsUptoRow.holds Try.pinned (OpenSpec.upto cycleSumsSpec)

end Rows
end Go.Proofs.Ytkpoobnldgfapaa
