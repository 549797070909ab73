/-
  DERIVED. GIVEN WITH THE SEED: THE CARDS: each row of YtkpoobnldgfapabGreatDoorRows.lean that lists a variable, with what it lists TIED to the program's text (the seventh form; the later family's looks); each row that meets fmt, with fmt's text TOLD by the authors' own Lean function (tested against real Go, not proved from fmt's source: count such statements apart). THE CARD IS WHAT COUNTS. Prove the row's statement (the work); the ties are given (YtkpoobnldgfapabGreatDoorTie.lean); close each card by the builder's one call (the guide's Derived/Test/ToyasCard.lean, 'card_holds'). Laid BY PROGRAM, IN A SANDBOX (cutbox-door.mjs). By AI agents, Wed Nov 11 2026. No macro, syntax, notation, axiom, sorry.
-/
import Derived.Test.YtkpoobnldgfapabGreatDoorRows
import GoSem.ClaimSeven
namespace Go.Proofs.YtkpoobnldgfapabGreatDoor
namespace Rows

/-- THE TIED CARD OF 'isthmuslaw.CycleOf'. -/
def cycleOfCard : Claim7 := { stood := { row := cycleOfRow, standIns := [], harness := (true, "c7e5e62baebd3f4548d094a62ba595fc6c2d15be60136bbae6b7310a94fc3a1c"), looks := true }, kinds := [], alts := [], goes := true, laidByText := true, laidKinds := [.handle], laidTests := true, laidLooks := .later }
def CycleOfCardSaid : Prop := Claim7.holds Tryz.pinned (.plain (OpenSpec.ofChange cycleOfSpec)) cycleOfCard

/-- THE TIED CARD OF 'isthmuslaw.BridgePlays'. -/
def bridgePlaysCard : Claim7 := { stood := { row := bridgePlaysRow, standIns := [], harness := (true, "c7e5e62baebd3f4548d094a62ba595fc6c2d15be60136bbae6b7310a94fc3a1c"), looks := true }, kinds := [], alts := [], goes := true, laidByText := true, laidKinds := [.handle], laidTests := true, laidLooks := .later }
def BridgePlaysCardSaid : Prop := Claim7.holds Tryz.pinned (.plain (OpenSpec.ofChange bridgePlaysSpec)) bridgePlaysCard

/-- THE TIED CARD OF 'isthmuslaw.BlockOf'. -/
def blockOfCard : Claim7 := { stood := { row := blockOfRow, standIns := [], harness := (true, "c7e5e62baebd3f4548d094a62ba595fc6c2d15be60136bbae6b7310a94fc3a1c"), looks := true }, kinds := [], alts := [], goes := true, laidByText := true, laidKinds := [.handle], laidTests := true, laidLooks := .later }
def BlockOfCardSaid : Prop := Claim7.holds Tryz.pinned (.plain (OpenSpec.ofChange blockOfSpec)) blockOfCard

/-- THE TIED CARD OF 'isthmuslaw.IndexLoads'. -/
def indexLoadsCard : Claim7 := { stood := { row := indexLoadsRow, standIns := [], harness := (true, "c7e5e62baebd3f4548d094a62ba595fc6c2d15be60136bbae6b7310a94fc3a1c"), looks := true }, kinds := [], alts := [], goes := true, laidByText := true, laidKinds := [.data, .data, .data, .data, .handle, .sentinel, .sentinel, .pinned], laidTests := true, laidLooks := .later }
def IndexLoadsCardSaid : Prop := Claim7.holds Tryz.pinned (.plain (OpenSpec.ofChange indexLoadsSpec)) indexLoadsCard

/-- THE TIED CARD OF 'isthmuskeep.IndexBack'. -/
def indexBackCard : Claim7 := { stood := { row := indexBackRow, standIns := [], harness := (true, "c7e5e62baebd3f4548d094a62ba595fc6c2d15be60136bbae6b7310a94fc3a1c"), looks := true }, kinds := [], alts := [], goes := true, laidByText := true, laidKinds := [.data, .data, .data, .data, .sentinel, .sentinel, .pinned], laidTests := true, laidLooks := .later }
def IndexBackCardSaid : Prop := Claim7.holds Tryz.pinned (.plain (OpenSpec.ofChange indexBackSpec)) indexBackCard

/-- THE TIED CARD OF 'isthmuskeep.DeskPieces'. -/
def deskPiecesCard : Claim7 := { stood := { row := deskPiecesRow, standIns := [], harness := (true, "c7e5e62baebd3f4548d094a62ba595fc6c2d15be60136bbae6b7310a94fc3a1c"), looks := true }, kinds := [], alts := [], goes := true, laidByText := true, laidKinds := [.data, .data, .data, .data, .handle, .sentinel, .sentinel, .pinned], laidTests := true, laidLooks := .later }
def DeskPiecesCardSaid : Prop := Claim7.holds Tryz.pinned (.plain (OpenSpec.ofChange deskPiecesSpec)) deskPiecesCard

/-- THE TIED CARD OF 'isthmuslaw.IndexPlays'. -/
def indexPlaysCard : Claim7 := { stood := { row := indexPlaysRow, standIns := [], harness := (true, "c7e5e62baebd3f4548d094a62ba595fc6c2d15be60136bbae6b7310a94fc3a1c"), looks := true }, kinds := [], alts := [], goes := true, laidByText := true, laidKinds := [.data, .data, .data, .data, .handle, .sentinel, .sentinel, .pinned], laidTests := true, laidLooks := .later }
def IndexPlaysCardSaid : Prop := Claim7.holds Tryz.pinned (.plain (OpenSpec.ofChange indexPlaysSpec)) indexPlaysCard

/-- THE TIED CARD OF 'isthmuskeep.ManyWorkers'. -/
def manyWorkersCard : Claim7 := { stood := { row := manyWorkersRow, standIns := [], harness := (true, "c7e5e62baebd3f4548d094a62ba595fc6c2d15be60136bbae6b7310a94fc3a1c"), looks := true }, kinds := [], alts := [], goes := true, laidByText := true, laidKinds := [.data, .data, .data, .data, .handle, .sentinel, .sentinel, .pinned], laidTests := true, laidLooks := .later }
def ManyWorkersCardSaid : Prop := Claim7.holds Tryz.pinned (.plain (OpenSpec.ofChange manyWorkersSpec)) manyWorkersCard

/-- THE SECOND FORM's CARD OF 'isthmuslaw.CycleOf'. -/
def cycleOfUptoCard : Claim7 := { stood := { row := cycleOfUptoRow, standIns := [], harness := (true, "c7e5e62baebd3f4548d094a62ba595fc6c2d15be60136bbae6b7310a94fc3a1c"), looks := true }, kinds := [], alts := [], goes := true, laidByText := true, laidKinds := [.handle], laidTests := true, laidLooks := .later }
def CycleOfUptoCardSaid : Prop := Claim7.holds Tryz.pinned (.plain (OpenSpec.upto cycleOfSpec)) cycleOfUptoCard

/-- THE SECOND FORM's CARD OF 'isthmuslaw.BridgePlays'. -/
def bridgePlaysUptoCard : Claim7 := { stood := { row := bridgePlaysUptoRow, standIns := [], harness := (true, "c7e5e62baebd3f4548d094a62ba595fc6c2d15be60136bbae6b7310a94fc3a1c"), looks := true }, kinds := [], alts := [], goes := true, laidByText := true, laidKinds := [.handle], laidTests := true, laidLooks := .later }
def BridgePlaysUptoCardSaid : Prop := Claim7.holds Tryz.pinned (.plain (OpenSpec.upto bridgePlaysSpec)) bridgePlaysUptoCard

/-- THE SECOND FORM's CARD OF 'isthmuslaw.BlockOf'. -/
def blockOfUptoCard : Claim7 := { stood := { row := blockOfUptoRow, standIns := [], harness := (true, "c7e5e62baebd3f4548d094a62ba595fc6c2d15be60136bbae6b7310a94fc3a1c"), looks := true }, kinds := [], alts := [], goes := true, laidByText := true, laidKinds := [.handle], laidTests := true, laidLooks := .later }
def BlockOfUptoCardSaid : Prop := Claim7.holds Tryz.pinned (.plain (OpenSpec.upto blockOfSpec)) blockOfUptoCard

/-- THE SECOND FORM's CARD OF 'isthmuslaw.IndexLoads'. -/
def indexLoadsUptoCard : Claim7 := { stood := { row := indexLoadsUptoRow, standIns := [], harness := (true, "c7e5e62baebd3f4548d094a62ba595fc6c2d15be60136bbae6b7310a94fc3a1c"), looks := true }, kinds := [], alts := [], goes := true, laidByText := true, laidKinds := [.data, .data, .data, .data, .handle, .sentinel, .sentinel, .pinned], laidTests := true, laidLooks := .later }
def IndexLoadsUptoCardSaid : Prop := Claim7.holds Tryz.pinned (.plain (OpenSpec.upto indexLoadsSpec)) indexLoadsUptoCard

/-- THE SECOND FORM's CARD OF 'isthmuskeep.IndexBack'. -/
def indexBackUptoCard : Claim7 := { stood := { row := indexBackUptoRow, standIns := [], harness := (true, "c7e5e62baebd3f4548d094a62ba595fc6c2d15be60136bbae6b7310a94fc3a1c"), looks := true }, kinds := [], alts := [], goes := true, laidByText := true, laidKinds := [.data, .data, .data, .data, .sentinel, .sentinel, .pinned], laidTests := true, laidLooks := .later }
def IndexBackUptoCardSaid : Prop := Claim7.holds Tryz.pinned (.plain (OpenSpec.upto indexBackSpec)) indexBackUptoCard

/-- THE SECOND FORM's CARD OF 'isthmuskeep.DeskPieces'. -/
def deskPiecesUptoCard : Claim7 := { stood := { row := deskPiecesUptoRow, standIns := [], harness := (true, "c7e5e62baebd3f4548d094a62ba595fc6c2d15be60136bbae6b7310a94fc3a1c"), looks := true }, kinds := [], alts := [], goes := true, laidByText := true, laidKinds := [.data, .data, .data, .data, .handle, .sentinel, .sentinel, .pinned], laidTests := true, laidLooks := .later }
def DeskPiecesUptoCardSaid : Prop := Claim7.holds Tryz.pinned (.plain (OpenSpec.upto deskPiecesSpec)) deskPiecesUptoCard

/-- THE SECOND FORM's CARD OF 'isthmuslaw.IndexPlays'. -/
def indexPlaysUptoCard : Claim7 := { stood := { row := indexPlaysUptoRow, standIns := [], harness := (true, "c7e5e62baebd3f4548d094a62ba595fc6c2d15be60136bbae6b7310a94fc3a1c"), looks := true }, kinds := [], alts := [], goes := true, laidByText := true, laidKinds := [.data, .data, .data, .data, .handle, .sentinel, .sentinel, .pinned], laidTests := true, laidLooks := .later }
def IndexPlaysUptoCardSaid : Prop := Claim7.holds Tryz.pinned (.plain (OpenSpec.upto indexPlaysSpec)) indexPlaysUptoCard

/-- THE SECOND FORM's CARD OF 'isthmuskeep.ManyWorkers'. -/
def manyWorkersUptoCard : Claim7 := { stood := { row := manyWorkersUptoRow, standIns := [], harness := (true, "c7e5e62baebd3f4548d094a62ba595fc6c2d15be60136bbae6b7310a94fc3a1c"), looks := true }, kinds := [], alts := [], goes := true, laidByText := true, laidKinds := [.data, .data, .data, .data, .handle, .sentinel, .sentinel, .pinned], laidTests := true, laidLooks := .later }
def ManyWorkersUptoCardSaid : Prop := Claim7.holds Tryz.pinned (.plain (OpenSpec.upto manyWorkersSpec)) manyWorkersUptoCard
end Rows
end Go.Proofs.YtkpoobnldgfapabGreatDoor
