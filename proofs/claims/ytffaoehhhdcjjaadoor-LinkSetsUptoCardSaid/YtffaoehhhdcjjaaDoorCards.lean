/-
  DERIVED. GIVEN WITH THE SEED: THE CARDS: each row of YtffaoehhhdcjjaaDoorRows.lean that lists a variable, with what it lists TIED to the program's text (the seventh form; the later family's looks); each row that meets fmt, with fmt's text TOLD by the authors' own Lean function (tested against real Go, not proved from fmt's source: count such statements apart). THE CARD IS WHAT COUNTS. Prove the row's statement (the work); the ties are given (YtffaoehhhdcjjaaDoorTie.lean); close each card by the builder's one call (the guide's Derived/Test/ToyasCard.lean, 'card_holds'). Laid BY PROGRAM, IN A SANDBOX (cutbox-door.mjs). By AI agents, Wed Nov 11 2026. No macro, syntax, notation, axiom, sorry.
-/
import Derived.Test.YtffaoehhhdcjjaaDoorRows
import GoSem.ClaimSeven
namespace Go.Proofs.YtffaoehhhdcjjaaDoor
namespace Rows

/-- THE TIED CARD OF 'sievelaw12.LinkKinds'. -/
def linkKindsCard : Claim7 := { stood := { row := linkKindsRow, standIns := [], harness := (true, "a452277ead7b4119733e26bdfaeb41ff180a30dad47f5e98502e889545d528c8"), looks := false }, kinds := [], alts := [], laidByText := true, laidKinds := [.data], laidTests := true, laidLooks := .later }
def LinkKindsCardSaid : Prop := Claim7.holds Tryd.pinned (.plain (OpenSpec.ofChange linkKindsSpec)) linkKindsCard

/-- THE TIED CARD OF 'sievelaw12.LinkHides'. -/
def linkHidesCard : Claim7 := { stood := { row := linkHidesRow, standIns := [], harness := (true, "a452277ead7b4119733e26bdfaeb41ff180a30dad47f5e98502e889545d528c8"), looks := false }, kinds := [], alts := [], laidByText := true, laidKinds := [.data], laidTests := true, laidLooks := .later }
def LinkHidesCardSaid : Prop := Claim7.holds Tryd.pinned (.plain (OpenSpec.ofChange linkHidesSpec)) linkHidesCard

/-- THE TIED CARD OF 'sievelaw12.LinkPairs'. -/
def linkPairsCard : Claim7 := { stood := { row := linkPairsRow, standIns := [], harness := (true, "a452277ead7b4119733e26bdfaeb41ff180a30dad47f5e98502e889545d528c8"), looks := false }, kinds := [], alts := [], laidByText := true, laidKinds := [.data, .pinned], laidTests := true, laidLooks := .later }
def LinkPairsCardSaid : Prop := Claim7.holds Tryd.pinned (.plain (OpenSpec.ofChange linkPairsSpec)) linkPairsCard

/-- THE TIED CARD OF 'sievelaw12.LinkSets'. -/
def linkSetsCard : Claim7 := { stood := { row := linkSetsRow, standIns := [], harness := (true, "a452277ead7b4119733e26bdfaeb41ff180a30dad47f5e98502e889545d528c8"), looks := false }, kinds := [], alts := [], laidByText := true, laidKinds := [.data, .pinned], laidTests := true, laidLooks := .later }
def LinkSetsCardSaid : Prop := Claim7.holds Tryd.pinned (.plain (OpenSpec.ofChange linkSetsSpec)) linkSetsCard

/-- THE SECOND FORM's CARD OF 'sievelaw12.LinkKinds'. -/
def linkKindsUptoCard : Claim7 := { stood := { row := linkKindsUptoRow, standIns := [], harness := (true, "a452277ead7b4119733e26bdfaeb41ff180a30dad47f5e98502e889545d528c8"), looks := false }, kinds := [], alts := [], laidByText := true, laidKinds := [.data], laidTests := true, laidLooks := .later }
def LinkKindsUptoCardSaid : Prop := Claim7.holds Tryd.pinned (.plain (OpenSpec.upto linkKindsSpec)) linkKindsUptoCard

/-- THE SECOND FORM's CARD OF 'sievelaw12.LinkHides'. -/
def linkHidesUptoCard : Claim7 := { stood := { row := linkHidesUptoRow, standIns := [], harness := (true, "a452277ead7b4119733e26bdfaeb41ff180a30dad47f5e98502e889545d528c8"), looks := false }, kinds := [], alts := [], laidByText := true, laidKinds := [.data], laidTests := true, laidLooks := .later }
def LinkHidesUptoCardSaid : Prop := Claim7.holds Tryd.pinned (.plain (OpenSpec.upto linkHidesSpec)) linkHidesUptoCard

/-- THE SECOND FORM's CARD OF 'sievelaw12.LinkPairs'. -/
def linkPairsUptoCard : Claim7 := { stood := { row := linkPairsUptoRow, standIns := [], harness := (true, "a452277ead7b4119733e26bdfaeb41ff180a30dad47f5e98502e889545d528c8"), looks := false }, kinds := [], alts := [], laidByText := true, laidKinds := [.data, .pinned], laidTests := true, laidLooks := .later }
def LinkPairsUptoCardSaid : Prop := Claim7.holds Tryd.pinned (.plain (OpenSpec.upto linkPairsSpec)) linkPairsUptoCard

/-- THE SECOND FORM's CARD OF 'sievelaw12.LinkSets'. -/
def linkSetsUptoCard : Claim7 := { stood := { row := linkSetsUptoRow, standIns := [], harness := (true, "a452277ead7b4119733e26bdfaeb41ff180a30dad47f5e98502e889545d528c8"), looks := false }, kinds := [], alts := [], laidByText := true, laidKinds := [.data, .pinned], laidTests := true, laidLooks := .later }
def LinkSetsUptoCardSaid : Prop := Claim7.holds Tryd.pinned (.plain (OpenSpec.upto linkSetsSpec)) linkSetsUptoCard
end Rows
end Go.Proofs.YtffaoehhhdcjjaaDoor
