/-
  DERIVED. GIVEN WITH THE SEED: THE CARDS: each row of YtpbpcdhhclnodaaDoorRows.lean that lists a variable, with what it lists TIED to the program's text (the seventh form; the later family's looks); each row that meets fmt, with fmt's text TOLD by the authors' own Lean function (tested against real Go, not proved from fmt's source: count such statements apart). THE CARD IS WHAT COUNTS. Prove the row's statement (the work); the ties are given (YtpbpcdhhclnodaaDoorTie.lean); close each card by the builder's one call (the guide's Derived/Test/ToyasCard.lean, 'card_holds'). Laid BY PROGRAM, IN A SANDBOX (cutbox-door.mjs). By AI agents, Wed Nov 11 2026. No macro, syntax, notation, axiom, sorry.
-/
import Derived.Test.YtpbpcdhhclnodaaDoorRows
import GoSem.ClaimSeven
namespace Go.Proofs.YtpbpcdhhclnodaaDoor
namespace Rows

/-- THE TIED CARD OF 'ploverlaw28.SnapPlays'. -/
def snapPlaysCard : Claim7 := { stood := { row := snapPlaysRow, standIns := [], harness := (true, "460cba566ea35eeaac40413014bb2d14f0bcf0bacf0e6246126bb24f60ddc553"), looks := true }, kinds := [], alts := [], laidByText := true, laidKinds := [.handle], laidTests := true, laidLooks := .later }
def SnapPlaysCardSaid : Prop := Claim7.holds Tryd.pinned (.plain (OpenSpec.ofChange snapPlaysSpec)) snapPlaysCard

/-- THE SECOND FORM's CARD OF 'ploverlaw28.SnapPlays'. -/
def snapPlaysUptoCard : Claim7 := { stood := { row := snapPlaysUptoRow, standIns := [], harness := (true, "460cba566ea35eeaac40413014bb2d14f0bcf0bacf0e6246126bb24f60ddc553"), looks := true }, kinds := [], alts := [], laidByText := true, laidKinds := [.handle], laidTests := true, laidLooks := .later }
def SnapPlaysUptoCardSaid : Prop := Claim7.holds Tryd.pinned (.plain (OpenSpec.upto snapPlaysSpec)) snapPlaysUptoCard
end Rows
end Go.Proofs.YtpbpcdhhclnodaaDoor
