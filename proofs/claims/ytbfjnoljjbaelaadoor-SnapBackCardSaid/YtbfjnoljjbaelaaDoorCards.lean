/-
  DERIVED. GIVEN WITH THE SEED: THE CARDS: each row of YtbfjnoljjbaelaaDoorRows.lean that lists a variable, with what it lists TIED to the program's text (the seventh form; the later family's looks); each row that meets fmt, with fmt's text TOLD by the authors' own Lean function (tested against real Go, not proved from fmt's source: count such statements apart). THE CARD IS WHAT COUNTS. Prove the row's statement (the work); the ties are given (YtbfjnoljjbaelaaDoorTie.lean); close each card by the builder's one call (the guide's Derived/Test/ToyasCard.lean, 'card_holds'). Laid BY PROGRAM, IN A SANDBOX (cutbox-door.mjs). By AI agents, Wed Nov 11 2026. No macro, syntax, notation, axiom, sorry.
-/
import Derived.Test.YtbfjnoljjbaelaaDoorRows
import GoSem.ClaimSeven
namespace Go.Proofs.YtbfjnoljjbaelaaDoor
namespace Rows

/-- THE TIED CARD OF 'ploverlaw28.SnapBack'. -/
def snapBackCard : Claim7 := { stood := { row := snapBackRow, standIns := [], harness := (true, "9687d1db9553b047660d30faf416e5f94ffd34773b8faae1c3638d14cc89f4ac"), looks := true }, kinds := [], alts := [], laidByText := true, laidKinds := [.handle], laidTests := true, laidLooks := .later }
def SnapBackCardSaid : Prop := Claim7.holds Tryd.pinned (.plain (OpenSpec.ofChange snapBackSpec)) snapBackCard

/-- THE SECOND FORM's CARD OF 'ploverlaw28.SnapBack'. -/
def snapBackUptoCard : Claim7 := { stood := { row := snapBackUptoRow, standIns := [], harness := (true, "9687d1db9553b047660d30faf416e5f94ffd34773b8faae1c3638d14cc89f4ac"), looks := true }, kinds := [], alts := [], laidByText := true, laidKinds := [.handle], laidTests := true, laidLooks := .later }
def SnapBackUptoCardSaid : Prop := Claim7.holds Tryd.pinned (.plain (OpenSpec.upto snapBackSpec)) snapBackUptoCard
end Rows
end Go.Proofs.YtbfjnoljjbaelaaDoor
