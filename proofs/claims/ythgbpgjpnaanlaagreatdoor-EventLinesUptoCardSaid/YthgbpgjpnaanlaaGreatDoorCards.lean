/-
  DERIVED. GIVEN WITH THE SEED: THE CARDS: each row of YthgbpgjpnaanlaaGreatDoorRows.lean that lists a variable, with what it lists TIED to the program's text (the seventh form; the later family's looks); each row that meets fmt, with fmt's text TOLD by the authors' own Lean function (tested against real Go, not proved from fmt's source: count such statements apart). THE CARD IS WHAT COUNTS. Prove the row's statement (the work); the ties are given (YthgbpgjpnaanlaaGreatDoorTie.lean); close each card by the builder's one call (the guide's Derived/Test/ToyasCard.lean, 'card_holds'). Laid BY PROGRAM, IN A SANDBOX (cutbox-door.mjs). By AI agents, Wed Nov 11 2026. No macro, syntax, notation, axiom, sorry.
-/
import Derived.Test.YthgbpgjpnaanlaaGreatDoorRows
import GoSem.ClaimSeven
namespace Go.Proofs.YthgbpgjpnaanlaaGreatDoor
namespace Rows

/-- THE TIED CARD OF 'sievelaw18.EventLines'. -/
def eventLinesCard : Claim7 := { stood := { row := eventLinesRow, standIns := [], harness := (true, "3358586517d2b167bb6777f9f69941022f66d1787da670462faf5a0bc3896af0"), looks := true }, kinds := [], alts := [], laidByText := true, laidKinds := [.data, .listed, .data, .pinned], laidTests := true, laidLooks := .later }
def EventLinesCardSaid : Prop := Claim7.holds Tryz.pinned (.plain (OpenSpec.ofChange eventLinesSpec)) eventLinesCard

/-- THE SECOND FORM's CARD OF 'sievelaw18.EventLines'. -/
def eventLinesUptoCard : Claim7 := { stood := { row := eventLinesUptoRow, standIns := [], harness := (true, "3358586517d2b167bb6777f9f69941022f66d1787da670462faf5a0bc3896af0"), looks := true }, kinds := [], alts := [], laidByText := true, laidKinds := [.data, .listed, .data, .pinned], laidTests := true, laidLooks := .later }
def EventLinesUptoCardSaid : Prop := Claim7.holds Tryz.pinned (.plain (OpenSpec.upto eventLinesSpec)) eventLinesUptoCard
end Rows
end Go.Proofs.YthgbpgjpnaanlaaGreatDoor
