/-
  DERIVED. GIVEN WITH THE SEED: THE CARDS: each row of YtkclldfejembnaaDoorRows.lean that lists a variable, with what it lists TIED to the program's text (the seventh form; the later family's looks); each row that meets fmt, with fmt's text TOLD by the authors' own Lean function (tested against real Go, not proved from fmt's source: count such statements apart). THE CARD IS WHAT COUNTS. Prove the row's statement (the work); the ties are given (YtkclldfejembnaaDoorTie.lean); close each card by the builder's one call (the guide's Derived/Test/ToyasCard.lean, 'card_holds'). Laid BY PROGRAM, IN A SANDBOX (cutbox-door.mjs). By AI agents, Wed Nov 11 2026. No macro, syntax, notation, axiom, sorry.
-/
import Derived.Test.YtkclldfejembnaaDoorRows
import GoSem.ClaimSeven
namespace Go.Proofs.YtkclldfejembnaaDoor
namespace Rows

/-- THE TIED CARD OF 'sievelaw10.RawNames'. -/
def rawNamesCard : Claim7 := { stood := { row := rawNamesRow, standIns := [], harness := (true, "fb9bd57a386518e80e00553aaa6c4069c398cf4a7e301c5dac975ad80404a0e1"), looks := false }, kinds := [], alts := [], laidByText := true, laidKinds := [.listed, .data], laidTests := true, laidLooks := .later }
def RawNamesCardSaid : Prop := Claim7.holds Tryd.pinned (.plain (OpenSpec.ofChange rawNamesSpec)) rawNamesCard

/-- THE TIED CARD OF 'sievelaw10.RawPlain'. -/
def rawPlainCard : Claim7 := { stood := { row := rawPlainRow, standIns := [], harness := (true, "fb9bd57a386518e80e00553aaa6c4069c398cf4a7e301c5dac975ad80404a0e1"), looks := false }, kinds := [], alts := [], laidByText := true, laidKinds := [.listed, .data], laidTests := true, laidLooks := .later }
def RawPlainCardSaid : Prop := Claim7.holds Tryd.pinned (.plain (OpenSpec.ofChange rawPlainSpec)) rawPlainCard

/-- THE TIED CARD OF 'sievelaw10.RawFirst'. -/
def rawFirstCard : Claim7 := { stood := { row := rawFirstRow, standIns := [], harness := (true, "fb9bd57a386518e80e00553aaa6c4069c398cf4a7e301c5dac975ad80404a0e1"), looks := false }, kinds := [], alts := [], laidByText := true, laidKinds := [.listed, .data], laidTests := true, laidLooks := .later }
def RawFirstCardSaid : Prop := Claim7.holds Tryd.pinned (.plain (OpenSpec.ofChange rawFirstSpec)) rawFirstCard

/-- THE TIED CARD OF 'sievelaw10.RawNones'. -/
def rawNonesCard : Claim7 := { stood := { row := rawNonesRow, standIns := [], harness := (true, "fb9bd57a386518e80e00553aaa6c4069c398cf4a7e301c5dac975ad80404a0e1"), looks := false }, kinds := [], alts := [], laidByText := true, laidKinds := [.listed, .data], laidTests := true, laidLooks := .later }
def RawNonesCardSaid : Prop := Claim7.holds Tryd.pinned (.plain (OpenSpec.ofChange rawNonesSpec)) rawNonesCard

/-- THE TIED CARD OF 'sievelaw10.RawSafe'. -/
def rawSafeCard : Claim7 := { stood := { row := rawSafeRow, standIns := [], harness := (true, "fb9bd57a386518e80e00553aaa6c4069c398cf4a7e301c5dac975ad80404a0e1"), looks := false }, kinds := [], alts := [], laidByText := true, laidKinds := [.listed, .data], laidTests := true, laidLooks := .later }
def RawSafeCardSaid : Prop := Claim7.holds Tryd.pinned (.plain (OpenSpec.ofChange rawSafeSpec)) rawSafeCard

/-- THE SECOND FORM's CARD OF 'sievelaw10.RawNames'. -/
def rawNamesUptoCard : Claim7 := { stood := { row := rawNamesUptoRow, standIns := [], harness := (true, "fb9bd57a386518e80e00553aaa6c4069c398cf4a7e301c5dac975ad80404a0e1"), looks := false }, kinds := [], alts := [], laidByText := true, laidKinds := [.listed, .data], laidTests := true, laidLooks := .later }
def RawNamesUptoCardSaid : Prop := Claim7.holds Tryd.pinned (.plain (OpenSpec.upto rawNamesSpec)) rawNamesUptoCard

/-- THE SECOND FORM's CARD OF 'sievelaw10.RawPlain'. -/
def rawPlainUptoCard : Claim7 := { stood := { row := rawPlainUptoRow, standIns := [], harness := (true, "fb9bd57a386518e80e00553aaa6c4069c398cf4a7e301c5dac975ad80404a0e1"), looks := false }, kinds := [], alts := [], laidByText := true, laidKinds := [.listed, .data], laidTests := true, laidLooks := .later }
def RawPlainUptoCardSaid : Prop := Claim7.holds Tryd.pinned (.plain (OpenSpec.upto rawPlainSpec)) rawPlainUptoCard

/-- THE SECOND FORM's CARD OF 'sievelaw10.RawFirst'. -/
def rawFirstUptoCard : Claim7 := { stood := { row := rawFirstUptoRow, standIns := [], harness := (true, "fb9bd57a386518e80e00553aaa6c4069c398cf4a7e301c5dac975ad80404a0e1"), looks := false }, kinds := [], alts := [], laidByText := true, laidKinds := [.listed, .data], laidTests := true, laidLooks := .later }
def RawFirstUptoCardSaid : Prop := Claim7.holds Tryd.pinned (.plain (OpenSpec.upto rawFirstSpec)) rawFirstUptoCard

/-- THE SECOND FORM's CARD OF 'sievelaw10.RawNones'. -/
def rawNonesUptoCard : Claim7 := { stood := { row := rawNonesUptoRow, standIns := [], harness := (true, "fb9bd57a386518e80e00553aaa6c4069c398cf4a7e301c5dac975ad80404a0e1"), looks := false }, kinds := [], alts := [], laidByText := true, laidKinds := [.listed, .data], laidTests := true, laidLooks := .later }
def RawNonesUptoCardSaid : Prop := Claim7.holds Tryd.pinned (.plain (OpenSpec.upto rawNonesSpec)) rawNonesUptoCard

/-- THE SECOND FORM's CARD OF 'sievelaw10.RawSafe'. -/
def rawSafeUptoCard : Claim7 := { stood := { row := rawSafeUptoRow, standIns := [], harness := (true, "fb9bd57a386518e80e00553aaa6c4069c398cf4a7e301c5dac975ad80404a0e1"), looks := false }, kinds := [], alts := [], laidByText := true, laidKinds := [.listed, .data], laidTests := true, laidLooks := .later }
def RawSafeUptoCardSaid : Prop := Claim7.holds Tryd.pinned (.plain (OpenSpec.upto rawSafeSpec)) rawSafeUptoCard
end Rows
end Go.Proofs.YtkclldfejembnaaDoor
