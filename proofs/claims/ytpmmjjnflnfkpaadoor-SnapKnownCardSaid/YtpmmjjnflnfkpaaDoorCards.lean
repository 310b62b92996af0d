/-
  DERIVED. GIVEN WITH THE SEED: THE CARDS: each row of YtpmmjjnflnfkpaaDoorRows.lean that lists a variable, with what it lists TIED to the program's text (the seventh form; the later family's looks); each row that meets fmt, with fmt's text TOLD by the authors' own Lean function (tested against real Go, not proved from fmt's source: count such statements apart). THE CARD IS WHAT COUNTS. Prove the row's statement (the work); the ties are given (YtpmmjjnflnfkpaaDoorTie.lean); close each card by the builder's one call (the guide's Derived/Test/ToyasCard.lean, 'card_holds'). Laid BY PROGRAM, IN A SANDBOX (cutbox-door.mjs). By AI agents, Wed Nov 11 2026. No macro, syntax, notation, axiom, sorry.
-/
import Derived.Test.YtpmmjjnflnfkpaaDoorRows
import GoSem.ClaimSeven
namespace Go.Proofs.YtpmmjjnflnfkpaaDoor
namespace Rows

/-- THE TIED CARD OF 'ploverlaw28.SnapKnown'. -/
def snapKnownCard : Claim7 := { stood := { row := snapKnownRow, standIns := [], harness := (true, "8bf7570abe46bbae0054613a5c4d1dd95b816f0652078aac92c47a82dc37bf56"), looks := true }, kinds := [], alts := [], laidByText := true, laidKinds := [.handle], laidTests := true, laidLooks := .later }
def SnapKnownCardSaid : Prop := Claim7.holds Tryd.pinned (.plain (OpenSpec.ofChange snapKnownSpec)) snapKnownCard

/-- THE SECOND FORM's CARD OF 'ploverlaw28.SnapKnown'. -/
def snapKnownUptoCard : Claim7 := { stood := { row := snapKnownUptoRow, standIns := [], harness := (true, "8bf7570abe46bbae0054613a5c4d1dd95b816f0652078aac92c47a82dc37bf56"), looks := true }, kinds := [], alts := [], laidByText := true, laidKinds := [.handle], laidTests := true, laidLooks := .later }
def SnapKnownUptoCardSaid : Prop := Claim7.holds Tryd.pinned (.plain (OpenSpec.upto snapKnownSpec)) snapKnownUptoCard
end Rows
end Go.Proofs.YtpmmjjnflnfkpaaDoor
