/-
  DERIVED. GIVEN WITH THE SEED: THE CARDS: each row of YtkpoobnldgfapaaDoorRows.lean that lists a variable, with what it lists TIED to the program's text (the seventh form; the later family's looks); each row that meets fmt, with fmt's text TOLD by the authors' own Lean function (tested against real Go, not proved from fmt's source: count such statements apart). THE CARD IS WHAT COUNTS. Prove the row's statement (the work); the ties are given (YtkpoobnldgfapaaDoorTie.lean); close each card by the builder's one call (the guide's Derived/Test/ToyasCard.lean, 'card_holds'). Laid BY PROGRAM, IN A SANDBOX (cutbox-door.mjs). By AI agents, Wed Nov 11 2026. No macro, syntax, notation, axiom, sorry.
-/
import Derived.Test.YtkpoobnldgfapaaDoorRows
import GoSem.ClaimSeven
namespace Go.Proofs.YtkpoobnldgfapaaDoor
namespace Rows

/-- THE TIED CARD OF 'isthmuslaw.SetsPlay'. -/
def setsPlayCard : Claim7 := { stood := { row := setsPlayRow, standIns := [], harness := (true, "e1211c3a6dc9738d9cdd536237a81873cbf521190a68415dea21fbb8c9bcb37d"), looks := true }, kinds := [], alts := [], laidByText := true, laidKinds := [.handle], laidTests := true, laidLooks := .later }
def SetsPlayCardSaid : Prop := Claim7.holds Tryd.pinned (.plain (OpenSpec.ofChange setsPlaySpec)) setsPlayCard

/-- THE TIED CARD OF 'isthmuslaw.FlowCounts'. -/
def flowCountsCard : Claim7 := { stood := { row := flowCountsRow, standIns := [], harness := (true, "e1211c3a6dc9738d9cdd536237a81873cbf521190a68415dea21fbb8c9bcb37d"), looks := true }, kinds := [], alts := [], laidByText := true, laidKinds := [.handle], laidTests := true, laidLooks := .later }
def FlowCountsCardSaid : Prop := Claim7.holds Tryd.pinned (.plain (OpenSpec.ofChange flowCountsSpec)) flowCountsCard

/-- THE TIED CARD OF 'isthmuslaw.GraphPlays'. -/
def graphPlaysCard : Claim7 := { stood := { row := graphPlaysRow, standIns := [], harness := (true, "e1211c3a6dc9738d9cdd536237a81873cbf521190a68415dea21fbb8c9bcb37d"), looks := true }, kinds := [], alts := [], laidByText := true, laidKinds := [.handle], laidTests := true, laidLooks := .later }
def GraphPlaysCardSaid : Prop := Claim7.holds Tryd.pinned (.plain (OpenSpec.ofChange graphPlaysSpec)) graphPlaysCard

/-- THE SECOND FORM's CARD OF 'isthmuslaw.SetsPlay'. -/
def setsPlayUptoCard : Claim7 := { stood := { row := setsPlayUptoRow, standIns := [], harness := (true, "e1211c3a6dc9738d9cdd536237a81873cbf521190a68415dea21fbb8c9bcb37d"), looks := true }, kinds := [], alts := [], laidByText := true, laidKinds := [.handle], laidTests := true, laidLooks := .later }
def SetsPlayUptoCardSaid : Prop := Claim7.holds Tryd.pinned (.plain (OpenSpec.upto setsPlaySpec)) setsPlayUptoCard

/-- THE SECOND FORM's CARD OF 'isthmuslaw.FlowCounts'. -/
def flowCountsUptoCard : Claim7 := { stood := { row := flowCountsUptoRow, standIns := [], harness := (true, "e1211c3a6dc9738d9cdd536237a81873cbf521190a68415dea21fbb8c9bcb37d"), looks := true }, kinds := [], alts := [], laidByText := true, laidKinds := [.handle], laidTests := true, laidLooks := .later }
def FlowCountsUptoCardSaid : Prop := Claim7.holds Tryd.pinned (.plain (OpenSpec.upto flowCountsSpec)) flowCountsUptoCard

/-- THE SECOND FORM's CARD OF 'isthmuslaw.GraphPlays'. -/
def graphPlaysUptoCard : Claim7 := { stood := { row := graphPlaysUptoRow, standIns := [], harness := (true, "e1211c3a6dc9738d9cdd536237a81873cbf521190a68415dea21fbb8c9bcb37d"), looks := true }, kinds := [], alts := [], laidByText := true, laidKinds := [.handle], laidTests := true, laidLooks := .later }
def GraphPlaysUptoCardSaid : Prop := Claim7.holds Tryd.pinned (.plain (OpenSpec.upto graphPlaysSpec)) graphPlaysUptoCard
end Rows
end Go.Proofs.YtkpoobnldgfapaaDoor
