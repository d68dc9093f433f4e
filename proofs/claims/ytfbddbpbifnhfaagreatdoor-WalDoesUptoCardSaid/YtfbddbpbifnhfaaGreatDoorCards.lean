/-
  DERIVED. GIVEN WITH THE SEED: THE CARDS: each row of YtfbddbpbifnhfaaGreatDoorRows.lean that lists a variable, with what it lists TIED to the program's text (the seventh form; the later family's looks); each row that meets fmt, with fmt's text TOLD by the authors' own Lean function (tested against real Go, not proved from fmt's source: count such statements apart). THE CARD IS WHAT COUNTS. Prove the row's statement (the work); the ties are given (YtfbddbpbifnhfaaGreatDoorTie.lean); close each card by the builder's one call (the guide's Derived/Test/ToyasCard.lean, 'card_holds'). Laid BY PROGRAM, IN A SANDBOX (cutbox-door.mjs). By AI agents, Wed Nov 11 2026. No macro, syntax, notation, axiom, sorry.
-/
import Derived.Test.YtfbddbpbifnhfaaGreatDoorRows
import GoSem.ClaimSeven
namespace Go.Proofs.YtfbddbpbifnhfaaGreatDoor
namespace Rows

/-- THE TIED CARD OF 'colonnadelaw06.WalDoes'. -/
def walDoesCard : Claim7 := { stood := { row := walDoesRow, standIns := [], harness := (true, "6e2382e6dc61f4b847de97b792b5ea12be8bccf1b1b2235b3486a628394abd92"), looks := false }, kinds := [], alts := [], laidByText := true, laidKinds := [.data, .pinned], laidTests := true, laidLooks := .later }
def WalDoesCardSaid : Prop := Claim7.holds Tryz.pinned (.plain (OpenSpec.ofChange walDoesSpec)) walDoesCard

/-- THE SECOND FORM's CARD OF 'colonnadelaw06.WalDoes'. -/
def walDoesUptoCard : Claim7 := { stood := { row := walDoesUptoRow, standIns := [], harness := (true, "6e2382e6dc61f4b847de97b792b5ea12be8bccf1b1b2235b3486a628394abd92"), looks := false }, kinds := [], alts := [], laidByText := true, laidKinds := [.data, .pinned], laidTests := true, laidLooks := .later }
def WalDoesUptoCardSaid : Prop := Claim7.holds Tryz.pinned (.plain (OpenSpec.upto walDoesSpec)) walDoesUptoCard
end Rows
end Go.Proofs.YtfbddbpbifnhfaaGreatDoor
