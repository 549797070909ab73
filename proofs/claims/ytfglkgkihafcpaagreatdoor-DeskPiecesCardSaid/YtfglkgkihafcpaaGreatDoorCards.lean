/-
  DERIVED. GIVEN WITH THE SEED: THE CARDS: each row of YtfglkgkihafcpaaGreatDoorRows.lean that lists a variable, with what it lists TIED to the program's text (the seventh form; the later family's looks); each row that meets fmt, with fmt's text TOLD by the authors' own Lean function (tested against real Go, not proved from fmt's source: count such statements apart). THE CARD IS WHAT COUNTS. Prove the row's statement (the work); the ties are given (YtfglkgkihafcpaaGreatDoorTie.lean); close each card by the builder's one call (the guide's Derived/Test/ToyasCard.lean, 'card_holds'). Laid BY PROGRAM, IN A SANDBOX (cutbox-door.mjs). By AI agents, Wed Nov 11 2026. No macro, syntax, notation, axiom, sorry.
-/
import Derived.Test.YtfglkgkihafcpaaGreatDoorRows
import GoSem.ClaimSeven
namespace Go.Proofs.YtfglkgkihafcpaaGreatDoor
namespace Rows

/-- THE TIED CARD OF 'isthmuskeep.DeskPieces'. -/
def deskPiecesCard : Claim7 := { stood := { row := deskPiecesRow, standIns := [], harness := (true, "0006c6b8b801faf3db3f46cbf0a87d9651a0e39746448f982bec1bfe3a83bf9f"), looks := true }, kinds := [], alts := [], goes := true, laidByText := true, laidKinds := [.data, .data, .data, .data, .handle, .sentinel, .sentinel, .pinned], laidTests := true, laidLooks := .later }
def DeskPiecesCardSaid : Prop := Claim7.holds Tryz.pinned (.plain (OpenSpec.ofChange deskPiecesSpec)) deskPiecesCard

/-- THE TIED CARD OF 'isthmuskeep.ManyWorkers'. -/
def manyWorkersCard : Claim7 := { stood := { row := manyWorkersRow, standIns := [], harness := (true, "0006c6b8b801faf3db3f46cbf0a87d9651a0e39746448f982bec1bfe3a83bf9f"), looks := true }, kinds := [], alts := [], goes := true, laidByText := true, laidKinds := [.data, .data, .data, .data, .handle, .sentinel, .sentinel, .pinned], laidTests := true, laidLooks := .later }
def ManyWorkersCardSaid : Prop := Claim7.holds Tryz.pinned (.plain (OpenSpec.ofChange manyWorkersSpec)) manyWorkersCard

/-- THE SECOND FORM's CARD OF 'isthmuskeep.DeskPieces'. -/
def deskPiecesUptoCard : Claim7 := { stood := { row := deskPiecesUptoRow, standIns := [], harness := (true, "0006c6b8b801faf3db3f46cbf0a87d9651a0e39746448f982bec1bfe3a83bf9f"), looks := true }, kinds := [], alts := [], goes := true, laidByText := true, laidKinds := [.data, .data, .data, .data, .handle, .sentinel, .sentinel, .pinned], laidTests := true, laidLooks := .later }
def DeskPiecesUptoCardSaid : Prop := Claim7.holds Tryz.pinned (.plain (OpenSpec.upto deskPiecesSpec)) deskPiecesUptoCard

/-- THE SECOND FORM's CARD OF 'isthmuskeep.ManyWorkers'. -/
def manyWorkersUptoCard : Claim7 := { stood := { row := manyWorkersUptoRow, standIns := [], harness := (true, "0006c6b8b801faf3db3f46cbf0a87d9651a0e39746448f982bec1bfe3a83bf9f"), looks := true }, kinds := [], alts := [], goes := true, laidByText := true, laidKinds := [.data, .data, .data, .data, .handle, .sentinel, .sentinel, .pinned], laidTests := true, laidLooks := .later }
def ManyWorkersUptoCardSaid : Prop := Claim7.holds Tryz.pinned (.plain (OpenSpec.upto manyWorkersSpec)) manyWorkersUptoCard
end Rows
end Go.Proofs.YtfglkgkihafcpaaGreatDoor
