/-
  DERIVED. GIVEN WITH THE SEED: THE CARDS: each row of YtfbddbpbifnhfaaDoorRows.lean that lists a variable, with what it lists TIED to the program's text (the seventh form; the later family's looks); each row that meets fmt, with fmt's text TOLD by the authors' own Lean function (tested against real Go, not proved from fmt's source: count such statements apart). THE CARD IS WHAT COUNTS. Prove the row's statement (the work); the ties are given (YtfbddbpbifnhfaaDoorTie.lean); close each card by the builder's one call (the guide's Derived/Test/ToyasCard.lean, 'card_holds'). Laid BY PROGRAM, IN A SANDBOX (cutbox-door.mjs). By AI agents, Wed Nov 11 2026. No macro, syntax, notation, axiom, sorry.
-/
import Derived.Test.YtfbddbpbifnhfaaDoorRows
import GoSem.ClaimSeven
namespace Go.Proofs.YtfbddbpbifnhfaaDoor
namespace Rows

/-- THE TIED CARD OF 'colonnadelaw06.WalMarks'. -/
def walMarksCard : Claim7 := { stood := { row := walMarksRow, standIns := [], harness := (true, "fb29549184e36d5ee0838e78745ace4005ad80aadaf5cbd4e42f10735951c309"), looks := false }, kinds := [], alts := [], laidByText := true, laidKinds := [.data, .pinned], laidTests := true, laidLooks := .later }
def WalMarksCardSaid : Prop := Claim7.holds Tryd.pinned (.plain (OpenSpec.ofChange walMarksSpec)) walMarksCard

/-- THE TIED CARD OF 'colonnadelaw06.WalDamage'. -/
def walDamageCard : Claim7 := { stood := { row := walDamageRow, standIns := [], harness := (true, "fb29549184e36d5ee0838e78745ace4005ad80aadaf5cbd4e42f10735951c309"), looks := false }, kinds := [], alts := [], laidByText := true, laidKinds := [.data, .pinned], laidTests := true, laidLooks := .later }
def WalDamageCardSaid : Prop := Claim7.holds Tryd.pinned (.plain (OpenSpec.ofChange walDamageSpec)) walDamageCard

/-- THE TIED CARD OF 'colonnadelaw06.WalNone'. -/
def walNoneCard : Claim7 := { stood := { row := walNoneRow, standIns := [], harness := (true, "fb29549184e36d5ee0838e78745ace4005ad80aadaf5cbd4e42f10735951c309"), looks := false }, kinds := [], alts := [], laidByText := true, laidKinds := [.data, .pinned], laidTests := true, laidLooks := .later }
def WalNoneCardSaid : Prop := Claim7.holds Tryd.pinned (.plain (OpenSpec.ofChange walNoneSpec)) walNoneCard

/-- THE TIED CARD OF 'colonnadelaw06.WalWhole'. -/
def walWholeCard : Claim7 := { stood := { row := walWholeRow, standIns := [], harness := (true, "fb29549184e36d5ee0838e78745ace4005ad80aadaf5cbd4e42f10735951c309"), looks := false }, kinds := [], alts := [], laidByText := true, laidKinds := [.data, .pinned], laidTests := true, laidLooks := .later }
def WalWholeCardSaid : Prop := Claim7.holds Tryd.pinned (.plain (OpenSpec.ofChange walWholeSpec)) walWholeCard

/-- THE SECOND FORM's CARD OF 'colonnadelaw06.WalMarks'. -/
def walMarksUptoCard : Claim7 := { stood := { row := walMarksUptoRow, standIns := [], harness := (true, "fb29549184e36d5ee0838e78745ace4005ad80aadaf5cbd4e42f10735951c309"), looks := false }, kinds := [], alts := [], laidByText := true, laidKinds := [.data, .pinned], laidTests := true, laidLooks := .later }
def WalMarksUptoCardSaid : Prop := Claim7.holds Tryd.pinned (.plain (OpenSpec.upto walMarksSpec)) walMarksUptoCard

/-- THE SECOND FORM's CARD OF 'colonnadelaw06.WalDamage'. -/
def walDamageUptoCard : Claim7 := { stood := { row := walDamageUptoRow, standIns := [], harness := (true, "fb29549184e36d5ee0838e78745ace4005ad80aadaf5cbd4e42f10735951c309"), looks := false }, kinds := [], alts := [], laidByText := true, laidKinds := [.data, .pinned], laidTests := true, laidLooks := .later }
def WalDamageUptoCardSaid : Prop := Claim7.holds Tryd.pinned (.plain (OpenSpec.upto walDamageSpec)) walDamageUptoCard

/-- THE SECOND FORM's CARD OF 'colonnadelaw06.WalNone'. -/
def walNoneUptoCard : Claim7 := { stood := { row := walNoneUptoRow, standIns := [], harness := (true, "fb29549184e36d5ee0838e78745ace4005ad80aadaf5cbd4e42f10735951c309"), looks := false }, kinds := [], alts := [], laidByText := true, laidKinds := [.data, .pinned], laidTests := true, laidLooks := .later }
def WalNoneUptoCardSaid : Prop := Claim7.holds Tryd.pinned (.plain (OpenSpec.upto walNoneSpec)) walNoneUptoCard

/-- THE SECOND FORM's CARD OF 'colonnadelaw06.WalWhole'. -/
def walWholeUptoCard : Claim7 := { stood := { row := walWholeUptoRow, standIns := [], harness := (true, "fb29549184e36d5ee0838e78745ace4005ad80aadaf5cbd4e42f10735951c309"), looks := false }, kinds := [], alts := [], laidByText := true, laidKinds := [.data, .pinned], laidTests := true, laidLooks := .later }
def WalWholeUptoCardSaid : Prop := Claim7.holds Tryd.pinned (.plain (OpenSpec.upto walWholeSpec)) walWholeUptoCard
end Rows
end Go.Proofs.YtfbddbpbifnhfaaDoor
