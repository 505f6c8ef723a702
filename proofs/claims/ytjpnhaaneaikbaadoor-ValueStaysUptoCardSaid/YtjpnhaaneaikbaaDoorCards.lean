/-
  DERIVED. GIVEN WITH THE SEED: THE CARDS: each row of YtjpnhaaneaikbaaDoorRows.lean that lists a variable, with what it lists TIED to the program's text (the seventh form; the later family's looks); each row that meets fmt, with fmt's text TOLD by the authors' own Lean function (tested against real Go, not proved from fmt's source: count such statements apart). THE CARD IS WHAT COUNTS. Prove the row's statement (the work); the ties are given (YtjpnhaaneaikbaaDoorTie.lean); close each card by the builder's one call (the guide's Derived/Test/ToyasCard.lean, 'card_holds'). Laid BY PROGRAM, IN A SANDBOX (cutbox-door.mjs). By AI agents, Wed Nov 11 2026. No macro, syntax, notation, axiom, sorry.
-/
import Derived.Test.YtjpnhaaneaikbaaDoorRows
import GoSem.ClaimSeven
namespace Go.Proofs.YtjpnhaaneaikbaaDoor
namespace Rows

/-- THE TIED CARD OF 'sievelaw13.ValueNames'. -/
def valueNamesCard : Claim7 := { stood := { row := valueNamesRow, standIns := [], harness := (true, "340f329fdc467653740477f635d8f727cd2196c2acdbe09e83d0d273d46db85b"), looks := false }, kinds := [], alts := [], laidByText := true, laidKinds := [.data, .data, .pinned], laidTests := true, laidLooks := .later }
def ValueNamesCardSaid : Prop := Claim7.holds Tryd.pinned (.plain (OpenSpec.ofChange valueNamesSpec)) valueNamesCard

/-- THE TIED CARD OF 'sievelaw13.ValueWords'. -/
def valueWordsCard : Claim7 := { stood := { row := valueWordsRow, standIns := [], harness := (true, "340f329fdc467653740477f635d8f727cd2196c2acdbe09e83d0d273d46db85b"), looks := false }, kinds := [], alts := [], laidByText := true, laidKinds := [.data, .data, .pinned], laidTests := true, laidLooks := .later }
def ValueWordsCardSaid : Prop := Claim7.holds Tryd.pinned (.plain (OpenSpec.ofChange valueWordsSpec)) valueWordsCard

/-- THE TIED CARD OF 'sievelaw13.ValueStays'. -/
def valueStaysCard : Claim7 := { stood := { row := valueStaysRow, standIns := [], harness := (true, "340f329fdc467653740477f635d8f727cd2196c2acdbe09e83d0d273d46db85b"), looks := false }, kinds := [], alts := [], laidByText := true, laidKinds := [.data, .data, .pinned], laidTests := true, laidLooks := .later }
def ValueStaysCardSaid : Prop := Claim7.holds Tryd.pinned (.plain (OpenSpec.ofChange valueStaysSpec)) valueStaysCard

/-- THE TIED CARD OF 'sievelaw13.ValueYears'. -/
def valueYearsCard : Claim7 := { stood := { row := valueYearsRow, standIns := [], harness := (true, "340f329fdc467653740477f635d8f727cd2196c2acdbe09e83d0d273d46db85b"), looks := false }, kinds := [], alts := [], laidByText := true, laidKinds := [.data, .data, .pinned], laidTests := true, laidLooks := .later }
def ValueYearsCardSaid : Prop := Claim7.holds Tryd.pinned (.plain (OpenSpec.ofChange valueYearsSpec)) valueYearsCard

/-- THE TIED CARD OF 'sievelaw13.ValueDays'. -/
def valueDaysCard : Claim7 := { stood := { row := valueDaysRow, standIns := [], harness := (true, "340f329fdc467653740477f635d8f727cd2196c2acdbe09e83d0d273d46db85b"), looks := false }, kinds := [], alts := [], laidByText := true, laidKinds := [.data, .data, .pinned], laidTests := true, laidLooks := .later }
def ValueDaysCardSaid : Prop := Claim7.holds Tryd.pinned (.plain (OpenSpec.ofChange valueDaysSpec)) valueDaysCard

/-- THE SECOND FORM's CARD OF 'sievelaw13.ValueNames'. -/
def valueNamesUptoCard : Claim7 := { stood := { row := valueNamesUptoRow, standIns := [], harness := (true, "340f329fdc467653740477f635d8f727cd2196c2acdbe09e83d0d273d46db85b"), looks := false }, kinds := [], alts := [], laidByText := true, laidKinds := [.data, .data, .pinned], laidTests := true, laidLooks := .later }
def ValueNamesUptoCardSaid : Prop := Claim7.holds Tryd.pinned (.plain (OpenSpec.upto valueNamesSpec)) valueNamesUptoCard

/-- THE SECOND FORM's CARD OF 'sievelaw13.ValueWords'. -/
def valueWordsUptoCard : Claim7 := { stood := { row := valueWordsUptoRow, standIns := [], harness := (true, "340f329fdc467653740477f635d8f727cd2196c2acdbe09e83d0d273d46db85b"), looks := false }, kinds := [], alts := [], laidByText := true, laidKinds := [.data, .data, .pinned], laidTests := true, laidLooks := .later }
def ValueWordsUptoCardSaid : Prop := Claim7.holds Tryd.pinned (.plain (OpenSpec.upto valueWordsSpec)) valueWordsUptoCard

/-- THE SECOND FORM's CARD OF 'sievelaw13.ValueStays'. -/
def valueStaysUptoCard : Claim7 := { stood := { row := valueStaysUptoRow, standIns := [], harness := (true, "340f329fdc467653740477f635d8f727cd2196c2acdbe09e83d0d273d46db85b"), looks := false }, kinds := [], alts := [], laidByText := true, laidKinds := [.data, .data, .pinned], laidTests := true, laidLooks := .later }
def ValueStaysUptoCardSaid : Prop := Claim7.holds Tryd.pinned (.plain (OpenSpec.upto valueStaysSpec)) valueStaysUptoCard

/-- THE SECOND FORM's CARD OF 'sievelaw13.ValueYears'. -/
def valueYearsUptoCard : Claim7 := { stood := { row := valueYearsUptoRow, standIns := [], harness := (true, "340f329fdc467653740477f635d8f727cd2196c2acdbe09e83d0d273d46db85b"), looks := false }, kinds := [], alts := [], laidByText := true, laidKinds := [.data, .data, .pinned], laidTests := true, laidLooks := .later }
def ValueYearsUptoCardSaid : Prop := Claim7.holds Tryd.pinned (.plain (OpenSpec.upto valueYearsSpec)) valueYearsUptoCard

/-- THE SECOND FORM's CARD OF 'sievelaw13.ValueDays'. -/
def valueDaysUptoCard : Claim7 := { stood := { row := valueDaysUptoRow, standIns := [], harness := (true, "340f329fdc467653740477f635d8f727cd2196c2acdbe09e83d0d273d46db85b"), looks := false }, kinds := [], alts := [], laidByText := true, laidKinds := [.data, .data, .pinned], laidTests := true, laidLooks := .later }
def ValueDaysUptoCardSaid : Prop := Claim7.holds Tryd.pinned (.plain (OpenSpec.upto valueDaysSpec)) valueDaysUptoCard
end Rows
end Go.Proofs.YtjpnhaaneaikbaaDoor
