/-
  DERIVED. GIVEN WITH THE SEED: THE CARDS: each row of YtmnnffenijjpcaaDoorRows.lean that lists a variable, with what it lists TIED to the program's text (the seventh form; the later family's looks); each row that meets fmt, with fmt's text TOLD by the authors' own Lean function (tested against real Go, not proved from fmt's source: count such statements apart). THE CARD IS WHAT COUNTS. Prove the row's statement (the work); the ties are given (YtmnnffenijjpcaaDoorTie.lean); close each card by the builder's one call (the guide's Derived/Test/ToyasCard.lean, 'card_holds'). Laid BY PROGRAM, IN A SANDBOX (cutbox-door.mjs). By AI agents, Wed Nov 11 2026. No macro, syntax, notation, axiom, sorry.
-/
import Derived.Test.YtmnnffenijjpcaaDoorRows
import GoSem.ClaimSeven
namespace Go.Proofs.YtmnnffenijjpcaaDoor
namespace Rows

/-- THE TIED CARD OF 'sievelaw17.BalanceNames'. -/
def balanceNamesCard : Claim7 := { stood := { row := balanceNamesRow, standIns := [], harness := (true, "bcbaec300150dc6144425b7515f4340bb9f41b7e829847e9b884ce5ad78146c3"), looks := false }, kinds := [], alts := [], laidByText := true, laidKinds := [.data, .listed, .data, .pinned], laidTests := true, laidLooks := .later }
def BalanceNamesCardSaid : Prop := Claim7.holds Tryd.pinned (.plain (OpenSpec.ofChange balanceNamesSpec)) balanceNamesCard

/-- THE TIED CARD OF 'sievelaw17.BalanceNone'. -/
def balanceNoneCard : Claim7 := { stood := { row := balanceNoneRow, standIns := [], harness := (true, "bcbaec300150dc6144425b7515f4340bb9f41b7e829847e9b884ce5ad78146c3"), looks := false }, kinds := [], alts := [], laidByText := true, laidKinds := [.data, .listed, .data, .pinned], laidTests := true, laidLooks := .later }
def BalanceNoneCardSaid : Prop := Claim7.holds Tryd.pinned (.plain (OpenSpec.ofChange balanceNoneSpec)) balanceNoneCard

/-- THE SECOND FORM's CARD OF 'sievelaw17.BalanceNames'. -/
def balanceNamesUptoCard : Claim7 := { stood := { row := balanceNamesUptoRow, standIns := [], harness := (true, "bcbaec300150dc6144425b7515f4340bb9f41b7e829847e9b884ce5ad78146c3"), looks := false }, kinds := [], alts := [], laidByText := true, laidKinds := [.data, .listed, .data, .pinned], laidTests := true, laidLooks := .later }
def BalanceNamesUptoCardSaid : Prop := Claim7.holds Tryd.pinned (.plain (OpenSpec.upto balanceNamesSpec)) balanceNamesUptoCard

/-- THE SECOND FORM's CARD OF 'sievelaw17.BalanceNone'. -/
def balanceNoneUptoCard : Claim7 := { stood := { row := balanceNoneUptoRow, standIns := [], harness := (true, "bcbaec300150dc6144425b7515f4340bb9f41b7e829847e9b884ce5ad78146c3"), looks := false }, kinds := [], alts := [], laidByText := true, laidKinds := [.data, .listed, .data, .pinned], laidTests := true, laidLooks := .later }
def BalanceNoneUptoCardSaid : Prop := Claim7.holds Tryd.pinned (.plain (OpenSpec.upto balanceNoneSpec)) balanceNoneUptoCard
end Rows
end Go.Proofs.YtmnnffenijjpcaaDoor
