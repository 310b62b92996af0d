/-
  DERIVED. GIVEN WITH THE SEED: THE CARDS: each row of YtgkedaeojkbaiaaGreatDoorRows.lean that lists a variable, with what it lists TIED to the program's text (the seventh form; the later family's looks); each row that meets fmt, with fmt's text TOLD by the authors' own Lean function (tested against real Go, not proved from fmt's source: count such statements apart). THE CARD IS WHAT COUNTS. Prove the row's statement (the work); the ties are given (YtgkedaeojkbaiaaGreatDoorTie.lean); close each card by the builder's one call (the guide's Derived/Test/ToyasCard.lean, 'card_holds'). Laid BY PROGRAM, IN A SANDBOX (cutbox-door.mjs). By AI agents, Wed Nov 11 2026. No macro, syntax, notation, axiom, sorry.
-/
import Derived.Test.YtgkedaeojkbaiaaGreatDoorRows
import GoSem.ClaimSeven
namespace Go.Proofs.YtgkedaeojkbaiaaGreatDoor
namespace Rows

/-- THE TIED CARD OF 'ploverlaw28.SnapTells'. -/
def snapTellsCard : Claim7 := { stood := { row := snapTellsRow, standIns := [], harness := (true, "9d3d096a4b25d21b58adb588fa92e20f87de90c33137178acbe1e84266109f41"), looks := true }, kinds := [], alts := [], laidByText := true, laidKinds := [.handle], laidTests := true, laidLooks := .later }
def SnapTellsCardSaid : Prop := Claim7.holds Tryz.pinned (.plain (OpenSpec.ofChange snapTellsSpec)) snapTellsCard

/-- THE SECOND FORM's CARD OF 'ploverlaw28.SnapTells'. -/
def snapTellsUptoCard : Claim7 := { stood := { row := snapTellsUptoRow, standIns := [], harness := (true, "9d3d096a4b25d21b58adb588fa92e20f87de90c33137178acbe1e84266109f41"), looks := true }, kinds := [], alts := [], laidByText := true, laidKinds := [.handle], laidTests := true, laidLooks := .later }
def SnapTellsUptoCardSaid : Prop := Claim7.holds Tryz.pinned (.plain (OpenSpec.upto snapTellsSpec)) snapTellsUptoCard
end Rows
end Go.Proofs.YtgkedaeojkbaiaaGreatDoor
