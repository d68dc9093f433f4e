/-
  DERIVED. GIVEN WITH THE SEED: THE CARDS: each row of YtflhhipemmlgpaaDoorRows.lean that lists a variable, with what it lists TIED to the program's text (the seventh form; the later family's looks); each row that meets fmt, with fmt's text TOLD by the authors' own Lean function (tested against real Go, not proved from fmt's source: count such statements apart). THE CARD IS WHAT COUNTS. Prove the row's statement (the work); the ties are given (YtflhhipemmlgpaaDoorTie.lean); close each card by the builder's one call (the guide's Derived/Test/ToyasCard.lean, 'card_holds'). Laid BY PROGRAM, IN A SANDBOX (cutbox-door.mjs). By AI agents, Wed Nov 11 2026. No macro, syntax, notation, axiom, sorry.
-/
import Derived.Test.YtflhhipemmlgpaaDoorRows
import GoSem.ClaimSeven
namespace Go.Proofs.YtflhhipemmlgpaaDoor
namespace Rows

/-- THE TIED CARD OF 'colonnadelaw03.CodecSums'. -/
def codecSumsCard : Claim7 := { stood := { row := codecSumsRow, standIns := [], harness := (true, "75cdb1d97656041e1a56c7d45fc7e704aca80fe6764dbe3e6ddb845161b2f462"), looks := false }, kinds := [], alts := [], laidByText := true, laidKinds := [.data, .pinned], laidTests := true, laidLooks := .later }
def CodecSumsCardSaid : Prop := Claim7.holds Tryd.pinned (.plain (OpenSpec.ofChange codecSumsSpec)) codecSumsCard

/-- THE TIED CARD OF 'colonnadelaw03.CodecApart'. -/
def codecApartCard : Claim7 := { stood := { row := codecApartRow, standIns := [], harness := (true, "75cdb1d97656041e1a56c7d45fc7e704aca80fe6764dbe3e6ddb845161b2f462"), looks := false }, kinds := [], alts := [], laidByText := true, laidKinds := [.data, .pinned], laidTests := true, laidLooks := .later }
def CodecApartCardSaid : Prop := Claim7.holds Tryd.pinned (.plain (OpenSpec.ofChange codecApartSpec)) codecApartCard

/-- THE TIED CARD OF 'colonnadelaw03.CodecPuts'. -/
def codecPutsCard : Claim7 := { stood := { row := codecPutsRow, standIns := [], harness := (true, "75cdb1d97656041e1a56c7d45fc7e704aca80fe6764dbe3e6ddb845161b2f462"), looks := false }, kinds := [], alts := [], laidByText := true, laidKinds := [.data, .pinned], laidTests := true, laidLooks := .later }
def CodecPutsCardSaid : Prop := Claim7.holds Tryd.pinned (.plain (OpenSpec.ofChange codecPutsSpec)) codecPutsCard

/-- THE TIED CARD OF 'colonnadelaw03.CodecOwn'. -/
def codecOwnCard : Claim7 := { stood := { row := codecOwnRow, standIns := [], harness := (true, "75cdb1d97656041e1a56c7d45fc7e704aca80fe6764dbe3e6ddb845161b2f462"), looks := false }, kinds := [], alts := [], laidByText := true, laidKinds := [.data, .pinned], laidTests := true, laidLooks := .later }
def CodecOwnCardSaid : Prop := Claim7.holds Tryd.pinned (.plain (OpenSpec.ofChange codecOwnSpec)) codecOwnCard

/-- THE TIED CARD OF 'colonnadelaw03.CodecOrder'. -/
def codecOrderCard : Claim7 := { stood := { row := codecOrderRow, standIns := [], harness := (true, "75cdb1d97656041e1a56c7d45fc7e704aca80fe6764dbe3e6ddb845161b2f462"), looks := false }, kinds := [], alts := [], laidByText := true, laidKinds := [.data, .pinned], laidTests := true, laidLooks := .later }
def CodecOrderCardSaid : Prop := Claim7.holds Tryd.pinned (.plain (OpenSpec.ofChange codecOrderSpec)) codecOrderCard

/-- THE TIED CARD OF 'colonnadelaw03.CodecOneForm'. -/
def codecOneFormCard : Claim7 := { stood := { row := codecOneFormRow, standIns := [], harness := (true, "75cdb1d97656041e1a56c7d45fc7e704aca80fe6764dbe3e6ddb845161b2f462"), looks := false }, kinds := [], alts := [], laidByText := true, laidKinds := [.data, .pinned], laidTests := true, laidLooks := .later }
def CodecOneFormCardSaid : Prop := Claim7.holds Tryd.pinned (.plain (OpenSpec.ofChange codecOneFormSpec)) codecOneFormCard

/-- THE TIED CARD OF 'colonnadelaw03.CodecTakes'. -/
def codecTakesCard : Claim7 := { stood := { row := codecTakesRow, standIns := [], harness := (true, "75cdb1d97656041e1a56c7d45fc7e704aca80fe6764dbe3e6ddb845161b2f462"), looks := false }, kinds := [], alts := [], laidByText := true, laidKinds := [.data, .pinned], laidTests := true, laidLooks := .later }
def CodecTakesCardSaid : Prop := Claim7.holds Tryd.pinned (.plain (OpenSpec.ofChange codecTakesSpec)) codecTakesCard

/-- THE TIED CARD OF 'colonnadelaw03.CodecReturns'. -/
def codecReturnsCard : Claim7 := { stood := { row := codecReturnsRow, standIns := [], harness := (true, "75cdb1d97656041e1a56c7d45fc7e704aca80fe6764dbe3e6ddb845161b2f462"), looks := false }, kinds := [], alts := [], laidByText := true, laidKinds := [.data, .pinned], laidTests := true, laidLooks := .later }
def CodecReturnsCardSaid : Prop := Claim7.holds Tryd.pinned (.plain (OpenSpec.ofChange codecReturnsSpec)) codecReturnsCard

/-- THE TIED CARD OF 'colonnadelaw03.CodecNone'. -/
def codecNoneCard : Claim7 := { stood := { row := codecNoneRow, standIns := [], harness := (true, "75cdb1d97656041e1a56c7d45fc7e704aca80fe6764dbe3e6ddb845161b2f462"), looks := false }, kinds := [], alts := [], laidByText := true, laidKinds := [.data, .pinned], laidTests := true, laidLooks := .later }
def CodecNoneCardSaid : Prop := Claim7.holds Tryd.pinned (.plain (OpenSpec.ofChange codecNoneSpec)) codecNoneCard

/-- THE SECOND FORM's CARD OF 'colonnadelaw03.CodecSums'. -/
def codecSumsUptoCard : Claim7 := { stood := { row := codecSumsUptoRow, standIns := [], harness := (true, "75cdb1d97656041e1a56c7d45fc7e704aca80fe6764dbe3e6ddb845161b2f462"), looks := false }, kinds := [], alts := [], laidByText := true, laidKinds := [.data, .pinned], laidTests := true, laidLooks := .later }
def CodecSumsUptoCardSaid : Prop := Claim7.holds Tryd.pinned (.plain (OpenSpec.upto codecSumsSpec)) codecSumsUptoCard

/-- THE SECOND FORM's CARD OF 'colonnadelaw03.CodecApart'. -/
def codecApartUptoCard : Claim7 := { stood := { row := codecApartUptoRow, standIns := [], harness := (true, "75cdb1d97656041e1a56c7d45fc7e704aca80fe6764dbe3e6ddb845161b2f462"), looks := false }, kinds := [], alts := [], laidByText := true, laidKinds := [.data, .pinned], laidTests := true, laidLooks := .later }
def CodecApartUptoCardSaid : Prop := Claim7.holds Tryd.pinned (.plain (OpenSpec.upto codecApartSpec)) codecApartUptoCard

/-- THE SECOND FORM's CARD OF 'colonnadelaw03.CodecPuts'. -/
def codecPutsUptoCard : Claim7 := { stood := { row := codecPutsUptoRow, standIns := [], harness := (true, "75cdb1d97656041e1a56c7d45fc7e704aca80fe6764dbe3e6ddb845161b2f462"), looks := false }, kinds := [], alts := [], laidByText := true, laidKinds := [.data, .pinned], laidTests := true, laidLooks := .later }
def CodecPutsUptoCardSaid : Prop := Claim7.holds Tryd.pinned (.plain (OpenSpec.upto codecPutsSpec)) codecPutsUptoCard

/-- THE SECOND FORM's CARD OF 'colonnadelaw03.CodecOwn'. -/
def codecOwnUptoCard : Claim7 := { stood := { row := codecOwnUptoRow, standIns := [], harness := (true, "75cdb1d97656041e1a56c7d45fc7e704aca80fe6764dbe3e6ddb845161b2f462"), looks := false }, kinds := [], alts := [], laidByText := true, laidKinds := [.data, .pinned], laidTests := true, laidLooks := .later }
def CodecOwnUptoCardSaid : Prop := Claim7.holds Tryd.pinned (.plain (OpenSpec.upto codecOwnSpec)) codecOwnUptoCard

/-- THE SECOND FORM's CARD OF 'colonnadelaw03.CodecOrder'. -/
def codecOrderUptoCard : Claim7 := { stood := { row := codecOrderUptoRow, standIns := [], harness := (true, "75cdb1d97656041e1a56c7d45fc7e704aca80fe6764dbe3e6ddb845161b2f462"), looks := false }, kinds := [], alts := [], laidByText := true, laidKinds := [.data, .pinned], laidTests := true, laidLooks := .later }
def CodecOrderUptoCardSaid : Prop := Claim7.holds Tryd.pinned (.plain (OpenSpec.upto codecOrderSpec)) codecOrderUptoCard

/-- THE SECOND FORM's CARD OF 'colonnadelaw03.CodecOneForm'. -/
def codecOneFormUptoCard : Claim7 := { stood := { row := codecOneFormUptoRow, standIns := [], harness := (true, "75cdb1d97656041e1a56c7d45fc7e704aca80fe6764dbe3e6ddb845161b2f462"), looks := false }, kinds := [], alts := [], laidByText := true, laidKinds := [.data, .pinned], laidTests := true, laidLooks := .later }
def CodecOneFormUptoCardSaid : Prop := Claim7.holds Tryd.pinned (.plain (OpenSpec.upto codecOneFormSpec)) codecOneFormUptoCard

/-- THE SECOND FORM's CARD OF 'colonnadelaw03.CodecTakes'. -/
def codecTakesUptoCard : Claim7 := { stood := { row := codecTakesUptoRow, standIns := [], harness := (true, "75cdb1d97656041e1a56c7d45fc7e704aca80fe6764dbe3e6ddb845161b2f462"), looks := false }, kinds := [], alts := [], laidByText := true, laidKinds := [.data, .pinned], laidTests := true, laidLooks := .later }
def CodecTakesUptoCardSaid : Prop := Claim7.holds Tryd.pinned (.plain (OpenSpec.upto codecTakesSpec)) codecTakesUptoCard

/-- THE SECOND FORM's CARD OF 'colonnadelaw03.CodecReturns'. -/
def codecReturnsUptoCard : Claim7 := { stood := { row := codecReturnsUptoRow, standIns := [], harness := (true, "75cdb1d97656041e1a56c7d45fc7e704aca80fe6764dbe3e6ddb845161b2f462"), looks := false }, kinds := [], alts := [], laidByText := true, laidKinds := [.data, .pinned], laidTests := true, laidLooks := .later }
def CodecReturnsUptoCardSaid : Prop := Claim7.holds Tryd.pinned (.plain (OpenSpec.upto codecReturnsSpec)) codecReturnsUptoCard

/-- THE SECOND FORM's CARD OF 'colonnadelaw03.CodecNone'. -/
def codecNoneUptoCard : Claim7 := { stood := { row := codecNoneUptoRow, standIns := [], harness := (true, "75cdb1d97656041e1a56c7d45fc7e704aca80fe6764dbe3e6ddb845161b2f462"), looks := false }, kinds := [], alts := [], laidByText := true, laidKinds := [.data, .pinned], laidTests := true, laidLooks := .later }
def CodecNoneUptoCardSaid : Prop := Claim7.holds Tryd.pinned (.plain (OpenSpec.upto codecNoneSpec)) codecNoneUptoCard
end Rows
end Go.Proofs.YtflhhipemmlgpaaDoor
