/-
  DERIVED. GIVEN WITH THE SEED: THE CARDS: each row of YtcdogceabkpnmaaDoorRows.lean that lists a variable, with what it lists TIED to the program's text (the seventh form; the later family's looks); each row that meets fmt, with fmt's text TOLD by the authors' own Lean function (tested against real Go, not proved from fmt's source: count such statements apart). THE CARD IS WHAT COUNTS. Prove the row's statement (the work); the ties are given (YtcdogceabkpnmaaDoorTie.lean); close each card by the builder's one call (the guide's Derived/Test/ToyasCard.lean, 'card_holds'). Laid BY PROGRAM, IN A SANDBOX (cutbox-door.mjs). By AI agents, Wed Nov 11 2026. No macro, syntax, notation, axiom, sorry.
-/
import Derived.Test.YtcdogceabkpnmaaDoorRows
import GoSem.ClaimSeven
namespace Go.Proofs.YtcdogceabkpnmaaDoor
namespace Rows

/-- THE TIED CARD OF 'sievelaw21.DomWalks'. -/
def domWalksCard : Claim7 := { stood := { row := domWalksRow, standIns := [], harness := (true, "0b9595c7ee12ffed54cf01bb991c04a5e4cd49b07397d26e0209650feb27546f"), looks := false }, kinds := [], alts := [], laidByText := true, laidKinds := [.listed, .data], laidTests := true, laidLooks := .later }
def DomWalksCardSaid : Prop := Claim7.holds Tryd.pinned (.plain (OpenSpec.ofChange domWalksSpec)) domWalksCard

/-- THE TIED CARD OF 'sievelaw21.DomMerges'. -/
def domMergesCard : Claim7 := { stood := { row := domMergesRow, standIns := [], harness := (true, "0b9595c7ee12ffed54cf01bb991c04a5e4cd49b07397d26e0209650feb27546f"), looks := false }, kinds := [], alts := [], laidByText := true, laidKinds := [.listed, .data], laidTests := true, laidLooks := .later }
def DomMergesCardSaid : Prop := Claim7.holds Tryd.pinned (.plain (OpenSpec.ofChange domMergesSpec)) domMergesCard

/-- THE TIED CARD OF 'sievelaw21.DomEvents'. -/
def domEventsCard : Claim7 := { stood := { row := domEventsRow, standIns := [], harness := (true, "0b9595c7ee12ffed54cf01bb991c04a5e4cd49b07397d26e0209650feb27546f"), looks := false }, kinds := [], alts := [], laidByText := true, laidKinds := [.listed, .data], laidTests := true, laidLooks := .later }
def DomEventsCardSaid : Prop := Claim7.holds Tryd.pinned (.plain (OpenSpec.ofChange domEventsSpec)) domEventsCard

/-- THE TIED CARD OF 'sievelaw21.DomAsks'. -/
def domAsksCard : Claim7 := { stood := { row := domAsksRow, standIns := [], harness := (true, "0b9595c7ee12ffed54cf01bb991c04a5e4cd49b07397d26e0209650feb27546f"), looks := false }, kinds := [], alts := [], laidByText := true, laidKinds := [.listed, .data], laidTests := true, laidLooks := .later }
def DomAsksCardSaid : Prop := Claim7.holds Tryd.pinned (.plain (OpenSpec.ofChange domAsksSpec)) domAsksCard

/-- THE TIED CARD OF 'sievelaw21.DomDiffs'. -/
def domDiffsCard : Claim7 := { stood := { row := domDiffsRow, standIns := [], harness := (true, "0b9595c7ee12ffed54cf01bb991c04a5e4cd49b07397d26e0209650feb27546f"), looks := false }, kinds := [], alts := [], laidByText := true, laidKinds := [.listed, .data], laidTests := true, laidLooks := .later }
def DomDiffsCardSaid : Prop := Claim7.holds Tryd.pinned (.plain (OpenSpec.ofChange domDiffsSpec)) domDiffsCard

/-- THE TIED CARD OF 'sievelaw21.DomMerged'. -/
def domMergedCard : Claim7 := { stood := { row := domMergedRow, standIns := [], harness := (true, "0b9595c7ee12ffed54cf01bb991c04a5e4cd49b07397d26e0209650feb27546f"), looks := false }, kinds := [], alts := [], laidByText := true, laidKinds := [.listed, .data], laidTests := true, laidLooks := .later }
def DomMergedCardSaid : Prop := Claim7.holds Tryd.pinned (.plain (OpenSpec.ofChange domMergedSpec)) domMergedCard

/-- THE TIED CARD OF 'sievelaw21.DomQueries'. -/
def domQueriesCard : Claim7 := { stood := { row := domQueriesRow, standIns := [], harness := (true, "0b9595c7ee12ffed54cf01bb991c04a5e4cd49b07397d26e0209650feb27546f"), looks := false }, kinds := [], alts := [], laidByText := true, laidKinds := [.listed, .data], laidTests := true, laidLooks := .later }
def DomQueriesCardSaid : Prop := Claim7.holds Tryd.pinned (.plain (OpenSpec.ofChange domQueriesSpec)) domQueriesCard

/-- THE SECOND FORM's CARD OF 'sievelaw21.DomWalks'. -/
def domWalksUptoCard : Claim7 := { stood := { row := domWalksUptoRow, standIns := [], harness := (true, "0b9595c7ee12ffed54cf01bb991c04a5e4cd49b07397d26e0209650feb27546f"), looks := false }, kinds := [], alts := [], laidByText := true, laidKinds := [.listed, .data], laidTests := true, laidLooks := .later }
def DomWalksUptoCardSaid : Prop := Claim7.holds Tryd.pinned (.plain (OpenSpec.upto domWalksSpec)) domWalksUptoCard

/-- THE SECOND FORM's CARD OF 'sievelaw21.DomMerges'. -/
def domMergesUptoCard : Claim7 := { stood := { row := domMergesUptoRow, standIns := [], harness := (true, "0b9595c7ee12ffed54cf01bb991c04a5e4cd49b07397d26e0209650feb27546f"), looks := false }, kinds := [], alts := [], laidByText := true, laidKinds := [.listed, .data], laidTests := true, laidLooks := .later }
def DomMergesUptoCardSaid : Prop := Claim7.holds Tryd.pinned (.plain (OpenSpec.upto domMergesSpec)) domMergesUptoCard

/-- THE SECOND FORM's CARD OF 'sievelaw21.DomEvents'. -/
def domEventsUptoCard : Claim7 := { stood := { row := domEventsUptoRow, standIns := [], harness := (true, "0b9595c7ee12ffed54cf01bb991c04a5e4cd49b07397d26e0209650feb27546f"), looks := false }, kinds := [], alts := [], laidByText := true, laidKinds := [.listed, .data], laidTests := true, laidLooks := .later }
def DomEventsUptoCardSaid : Prop := Claim7.holds Tryd.pinned (.plain (OpenSpec.upto domEventsSpec)) domEventsUptoCard

/-- THE SECOND FORM's CARD OF 'sievelaw21.DomAsks'. -/
def domAsksUptoCard : Claim7 := { stood := { row := domAsksUptoRow, standIns := [], harness := (true, "0b9595c7ee12ffed54cf01bb991c04a5e4cd49b07397d26e0209650feb27546f"), looks := false }, kinds := [], alts := [], laidByText := true, laidKinds := [.listed, .data], laidTests := true, laidLooks := .later }
def DomAsksUptoCardSaid : Prop := Claim7.holds Tryd.pinned (.plain (OpenSpec.upto domAsksSpec)) domAsksUptoCard

/-- THE SECOND FORM's CARD OF 'sievelaw21.DomDiffs'. -/
def domDiffsUptoCard : Claim7 := { stood := { row := domDiffsUptoRow, standIns := [], harness := (true, "0b9595c7ee12ffed54cf01bb991c04a5e4cd49b07397d26e0209650feb27546f"), looks := false }, kinds := [], alts := [], laidByText := true, laidKinds := [.listed, .data], laidTests := true, laidLooks := .later }
def DomDiffsUptoCardSaid : Prop := Claim7.holds Tryd.pinned (.plain (OpenSpec.upto domDiffsSpec)) domDiffsUptoCard

/-- THE SECOND FORM's CARD OF 'sievelaw21.DomMerged'. -/
def domMergedUptoCard : Claim7 := { stood := { row := domMergedUptoRow, standIns := [], harness := (true, "0b9595c7ee12ffed54cf01bb991c04a5e4cd49b07397d26e0209650feb27546f"), looks := false }, kinds := [], alts := [], laidByText := true, laidKinds := [.listed, .data], laidTests := true, laidLooks := .later }
def DomMergedUptoCardSaid : Prop := Claim7.holds Tryd.pinned (.plain (OpenSpec.upto domMergedSpec)) domMergedUptoCard

/-- THE SECOND FORM's CARD OF 'sievelaw21.DomQueries'. -/
def domQueriesUptoCard : Claim7 := { stood := { row := domQueriesUptoRow, standIns := [], harness := (true, "0b9595c7ee12ffed54cf01bb991c04a5e4cd49b07397d26e0209650feb27546f"), looks := false }, kinds := [], alts := [], laidByText := true, laidKinds := [.listed, .data], laidTests := true, laidLooks := .later }
def DomQueriesUptoCardSaid : Prop := Claim7.holds Tryd.pinned (.plain (OpenSpec.upto domQueriesSpec)) domQueriesUptoCard
end Rows
end Go.Proofs.YtcdogceabkpnmaaDoor
