/-
  DERIVED. GIVEN WITH THE SEED: THE CARDS: each row of YtmnnffenijjpcaaGreatDoorRows.lean that lists a variable, with what it lists TIED to the program's text (the seventh form; the later family's looks); each row that meets fmt, with fmt's text TOLD by the authors' own Lean function (tested against real Go, not proved from fmt's source: count such statements apart). THE CARD IS WHAT COUNTS. Prove the row's statement (the work); the ties are given (YtmnnffenijjpcaaGreatDoorTie.lean); close each card by the builder's one call (the guide's Derived/Test/ToyasCard.lean, 'card_holds'). Laid BY PROGRAM, IN A SANDBOX (cutbox-door.mjs). By AI agents, Wed Nov 11 2026. No macro, syntax, notation, axiom, sorry.
-/
import Derived.Test.YtmnnffenijjpcaaGreatDoorRows
import GoSem.ClaimSeven
namespace Go.Proofs.YtmnnffenijjpcaaGreatDoor
namespace Rows

/-- THE TIED CARD OF 'sievelaw17.BalanceAll'. -/
def balanceAllCard : Claim7 := { stood := { row := balanceAllRow, standIns := [], harness := (true, "e6bd649d90b13e3cda673f6065fbe01461b6e37cf4700e913d941684563fd88d"), looks := false }, kinds := [], alts := [], laidByText := true, laidKinds := [.data, .listed, .data, .pinned], laidTests := true, laidLooks := .later }
def BalanceAllCardSaid : Prop := Claim7.holds Tryz.pinned (.plain (OpenSpec.ofChange balanceAllSpec)) balanceAllCard

/-- THE TIED CARD OF 'sievelaw17.BalanceNested'. -/
def balanceNestedCard : Claim7 := { stood := { row := balanceNestedRow, standIns := [], harness := (true, "e6bd649d90b13e3cda673f6065fbe01461b6e37cf4700e913d941684563fd88d"), looks := false }, kinds := [], alts := [], laidByText := true, laidKinds := [.data, .listed, .data, .pinned], laidTests := true, laidLooks := .later }
def BalanceNestedCardSaid : Prop := Claim7.holds Tryz.pinned (.plain (OpenSpec.ofChange balanceNestedSpec)) balanceNestedCard

/-- THE TIED CARD OF 'sievelaw17.BalanceTakes'. -/
def balanceTakesCard : Claim7 := { stood := { row := balanceTakesRow, standIns := [], harness := (true, "e6bd649d90b13e3cda673f6065fbe01461b6e37cf4700e913d941684563fd88d"), looks := false }, kinds := [], alts := [], laidByText := true, laidKinds := [.data, .listed, .data, .pinned], laidTests := true, laidLooks := .later }
def BalanceTakesCardSaid : Prop := Claim7.holds Tryz.pinned (.plain (OpenSpec.ofChange balanceTakesSpec)) balanceTakesCard

/-- THE SECOND FORM's CARD OF 'sievelaw17.BalanceAll'. -/
def balanceAllUptoCard : Claim7 := { stood := { row := balanceAllUptoRow, standIns := [], harness := (true, "e6bd649d90b13e3cda673f6065fbe01461b6e37cf4700e913d941684563fd88d"), looks := false }, kinds := [], alts := [], laidByText := true, laidKinds := [.data, .listed, .data, .pinned], laidTests := true, laidLooks := .later }
def BalanceAllUptoCardSaid : Prop := Claim7.holds Tryz.pinned (.plain (OpenSpec.upto balanceAllSpec)) balanceAllUptoCard

/-- THE SECOND FORM's CARD OF 'sievelaw17.BalanceNested'. -/
def balanceNestedUptoCard : Claim7 := { stood := { row := balanceNestedUptoRow, standIns := [], harness := (true, "e6bd649d90b13e3cda673f6065fbe01461b6e37cf4700e913d941684563fd88d"), looks := false }, kinds := [], alts := [], laidByText := true, laidKinds := [.data, .listed, .data, .pinned], laidTests := true, laidLooks := .later }
def BalanceNestedUptoCardSaid : Prop := Claim7.holds Tryz.pinned (.plain (OpenSpec.upto balanceNestedSpec)) balanceNestedUptoCard

/-- THE SECOND FORM's CARD OF 'sievelaw17.BalanceTakes'. -/
def balanceTakesUptoCard : Claim7 := { stood := { row := balanceTakesUptoRow, standIns := [], harness := (true, "e6bd649d90b13e3cda673f6065fbe01461b6e37cf4700e913d941684563fd88d"), looks := false }, kinds := [], alts := [], laidByText := true, laidKinds := [.data, .listed, .data, .pinned], laidTests := true, laidLooks := .later }
def BalanceTakesUptoCardSaid : Prop := Claim7.holds Tryz.pinned (.plain (OpenSpec.upto balanceTakesSpec)) balanceTakesUptoCard
end Rows
end Go.Proofs.YtmnnffenijjpcaaGreatDoor
