/-
  DERIVED. GIVEN WITH THE SEED: THE CARDS: each row of YtbhnokhofcgjmaaGreatDoorRows.lean that lists a variable, with what it lists TIED to the program's text (the seventh form; the later family's looks); each row that meets fmt, with fmt's text TOLD by the authors' own Lean function (tested against real Go, not proved from fmt's source: count such statements apart). THE CARD IS WHAT COUNTS. Prove the row's statement (the work); the ties are given (YtbhnokhofcgjmaaGreatDoorTie.lean); close each card by the builder's one call (the guide's Derived/Test/ToyasCard.lean, 'card_holds'). Laid BY PROGRAM, IN A SANDBOX (cutbox-door.mjs). By AI agents, Wed Nov 11 2026. No macro, syntax, notation, axiom, sorry.
-/
import Derived.Test.YtbhnokhofcgjmaaGreatDoorRows
import GoSem.ClaimSeven
namespace Go.Proofs.YtbhnokhofcgjmaaGreatDoor
namespace Rows

/-- THE TIED CARD OF 'ploverlaw09.ListKnown'. -/
def listKnownCard : Claim7 := { stood := { row := listKnownRow, standIns := [], harness := (true, "42e93a0e54c6378ef477a9451c299f635f00959b77f53aaddc73b43dfdf5fd1d"), looks := true }, kinds := [], alts := [], laidByText := true, laidKinds := [.data, .handle, .pinned], laidTests := true, laidLooks := .later }
def ListKnownCardSaid : Prop := Claim7.holds Tryz.pinned (.plain (OpenSpec.ofChange listKnownSpec)) listKnownCard

/-- THE SECOND FORM's CARD OF 'ploverlaw09.ListKnown'. -/
def listKnownUptoCard : Claim7 := { stood := { row := listKnownUptoRow, standIns := [], harness := (true, "42e93a0e54c6378ef477a9451c299f635f00959b77f53aaddc73b43dfdf5fd1d"), looks := true }, kinds := [], alts := [], laidByText := true, laidKinds := [.data, .handle, .pinned], laidTests := true, laidLooks := .later }
def ListKnownUptoCardSaid : Prop := Claim7.holds Tryz.pinned (.plain (OpenSpec.upto listKnownSpec)) listKnownUptoCard
end Rows
end Go.Proofs.YtbhnokhofcgjmaaGreatDoor
