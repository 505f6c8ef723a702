/-
  DERIVED. GIVEN WITH THE SEED: THE CARDS: each row of YthgbpgjpnaanlaaDoorRows.lean that lists a variable, with what it lists TIED to the program's text (the seventh form; the later family's looks); each row that meets fmt, with fmt's text TOLD by the authors' own Lean function (tested against real Go, not proved from fmt's source: count such statements apart). THE CARD IS WHAT COUNTS. Prove the row's statement (the work); the ties are given (YthgbpgjpnaanlaaDoorTie.lean); close each card by the builder's one call (the guide's Derived/Test/ToyasCard.lean, 'card_holds'). Laid BY PROGRAM, IN A SANDBOX (cutbox-door.mjs). By AI agents, Wed Nov 11 2026. No macro, syntax, notation, axiom, sorry.
-/
import Derived.Test.YthgbpgjpnaanlaaDoorRows
import GoSem.ClaimSeven
namespace Go.Proofs.YthgbpgjpnaanlaaDoor
namespace Rows

/-- THE TIED CARD OF 'sievelaw18.EventNames'. -/
def eventNamesCard : Claim7 := { stood := { row := eventNamesRow, standIns := [], harness := (true, "a7193f9f572b0b180b8c2b258e6447385179d5a88545064e0995a67a5e31f803"), looks := true }, kinds := [], alts := [], laidByText := true, laidKinds := [.listed, .data], laidTests := true, laidLooks := .later }
def EventNamesCardSaid : Prop := Claim7.holds Tryd.pinned (.plain (OpenSpec.ofChange eventNamesSpec)) eventNamesCard

/-- THE TIED CARD OF 'sievelaw18.EventNests'. -/
def eventNestsCard : Claim7 := { stood := { row := eventNestsRow, standIns := [], harness := (true, "a7193f9f572b0b180b8c2b258e6447385179d5a88545064e0995a67a5e31f803"), looks := true }, kinds := [], alts := [], laidByText := true, laidKinds := [.listed, .data], laidTests := true, laidLooks := .later }
def EventNestsCardSaid : Prop := Claim7.holds Tryd.pinned (.plain (OpenSpec.ofChange eventNestsSpec)) eventNestsCard

/-- THE TIED CARD OF 'sievelaw18.EventWalks'. -/
def eventWalksCard : Claim7 := { stood := { row := eventWalksRow, standIns := [], harness := (true, "a7193f9f572b0b180b8c2b258e6447385179d5a88545064e0995a67a5e31f803"), looks := true }, kinds := [], alts := [], laidByText := true, laidKinds := [.listed, .data], laidTests := true, laidLooks := .later }
def EventWalksCardSaid : Prop := Claim7.holds Tryd.pinned (.plain (OpenSpec.ofChange eventWalksSpec)) eventWalksCard

/-- THE TIED CARD OF 'sievelaw18.EventWraps'. -/
def eventWrapsCard : Claim7 := { stood := { row := eventWrapsRow, standIns := [], harness := (true, "a7193f9f572b0b180b8c2b258e6447385179d5a88545064e0995a67a5e31f803"), looks := true }, kinds := [], alts := [], laidByText := true, laidKinds := [.listed, .data], laidTests := true, laidLooks := .later }
def EventWrapsCardSaid : Prop := Claim7.holds Tryd.pinned (.plain (OpenSpec.ofChange eventWrapsSpec)) eventWrapsCard

/-- THE TIED CARD OF 'sievelaw18.EventDepths'. -/
def eventDepthsCard : Claim7 := { stood := { row := eventDepthsRow, standIns := [], harness := (true, "a7193f9f572b0b180b8c2b258e6447385179d5a88545064e0995a67a5e31f803"), looks := true }, kinds := [], alts := [], laidByText := true, laidKinds := [.listed, .data], laidTests := true, laidLooks := .later }
def EventDepthsCardSaid : Prop := Claim7.holds Tryd.pinned (.plain (OpenSpec.ofChange eventDepthsSpec)) eventDepthsCard

/-- THE TIED CARD OF 'sievelaw18.EventChecks'. -/
def eventChecksCard : Claim7 := { stood := { row := eventChecksRow, standIns := [], harness := (true, "a7193f9f572b0b180b8c2b258e6447385179d5a88545064e0995a67a5e31f803"), looks := true }, kinds := [], alts := [], laidByText := true, laidKinds := [.listed, .data], laidTests := true, laidLooks := .later }
def EventChecksCardSaid : Prop := Claim7.holds Tryd.pinned (.plain (OpenSpec.ofChange eventChecksSpec)) eventChecksCard

/-- THE TIED CARD OF 'sievelaw18.EventTrims'. -/
def eventTrimsCard : Claim7 := { stood := { row := eventTrimsRow, standIns := [], harness := (true, "a7193f9f572b0b180b8c2b258e6447385179d5a88545064e0995a67a5e31f803"), looks := true }, kinds := [], alts := [], laidByText := true, laidKinds := [.listed, .data], laidTests := true, laidLooks := .later }
def EventTrimsCardSaid : Prop := Claim7.holds Tryd.pinned (.plain (OpenSpec.ofChange eventTrimsSpec)) eventTrimsCard

/-- THE TIED CARD OF 'sievelaw18.EventShallow'. -/
def eventShallowCard : Claim7 := { stood := { row := eventShallowRow, standIns := [], harness := (true, "a7193f9f572b0b180b8c2b258e6447385179d5a88545064e0995a67a5e31f803"), looks := true }, kinds := [], alts := [], laidByText := true, laidKinds := [.listed, .data], laidTests := true, laidLooks := .later }
def EventShallowCardSaid : Prop := Claim7.holds Tryd.pinned (.plain (OpenSpec.ofChange eventShallowSpec)) eventShallowCard

/-- THE TIED CARD OF 'sievelaw18.EventBack'. -/
def eventBackCard : Claim7 := { stood := { row := eventBackRow, standIns := [], harness := (true, "a7193f9f572b0b180b8c2b258e6447385179d5a88545064e0995a67a5e31f803"), looks := true }, kinds := [], alts := [], laidByText := true, laidKinds := [.data, .listed, .data, .pinned], laidTests := true, laidLooks := .later }
def EventBackCardSaid : Prop := Claim7.holds Tryd.pinned (.plain (OpenSpec.ofChange eventBackSpec)) eventBackCard

/-- THE SECOND FORM's CARD OF 'sievelaw18.EventNames'. -/
def eventNamesUptoCard : Claim7 := { stood := { row := eventNamesUptoRow, standIns := [], harness := (true, "a7193f9f572b0b180b8c2b258e6447385179d5a88545064e0995a67a5e31f803"), looks := true }, kinds := [], alts := [], laidByText := true, laidKinds := [.listed, .data], laidTests := true, laidLooks := .later }
def EventNamesUptoCardSaid : Prop := Claim7.holds Tryd.pinned (.plain (OpenSpec.upto eventNamesSpec)) eventNamesUptoCard

/-- THE SECOND FORM's CARD OF 'sievelaw18.EventNests'. -/
def eventNestsUptoCard : Claim7 := { stood := { row := eventNestsUptoRow, standIns := [], harness := (true, "a7193f9f572b0b180b8c2b258e6447385179d5a88545064e0995a67a5e31f803"), looks := true }, kinds := [], alts := [], laidByText := true, laidKinds := [.listed, .data], laidTests := true, laidLooks := .later }
def EventNestsUptoCardSaid : Prop := Claim7.holds Tryd.pinned (.plain (OpenSpec.upto eventNestsSpec)) eventNestsUptoCard

/-- THE SECOND FORM's CARD OF 'sievelaw18.EventWalks'. -/
def eventWalksUptoCard : Claim7 := { stood := { row := eventWalksUptoRow, standIns := [], harness := (true, "a7193f9f572b0b180b8c2b258e6447385179d5a88545064e0995a67a5e31f803"), looks := true }, kinds := [], alts := [], laidByText := true, laidKinds := [.listed, .data], laidTests := true, laidLooks := .later }
def EventWalksUptoCardSaid : Prop := Claim7.holds Tryd.pinned (.plain (OpenSpec.upto eventWalksSpec)) eventWalksUptoCard

/-- THE SECOND FORM's CARD OF 'sievelaw18.EventWraps'. -/
def eventWrapsUptoCard : Claim7 := { stood := { row := eventWrapsUptoRow, standIns := [], harness := (true, "a7193f9f572b0b180b8c2b258e6447385179d5a88545064e0995a67a5e31f803"), looks := true }, kinds := [], alts := [], laidByText := true, laidKinds := [.listed, .data], laidTests := true, laidLooks := .later }
def EventWrapsUptoCardSaid : Prop := Claim7.holds Tryd.pinned (.plain (OpenSpec.upto eventWrapsSpec)) eventWrapsUptoCard

/-- THE SECOND FORM's CARD OF 'sievelaw18.EventDepths'. -/
def eventDepthsUptoCard : Claim7 := { stood := { row := eventDepthsUptoRow, standIns := [], harness := (true, "a7193f9f572b0b180b8c2b258e6447385179d5a88545064e0995a67a5e31f803"), looks := true }, kinds := [], alts := [], laidByText := true, laidKinds := [.listed, .data], laidTests := true, laidLooks := .later }
def EventDepthsUptoCardSaid : Prop := Claim7.holds Tryd.pinned (.plain (OpenSpec.upto eventDepthsSpec)) eventDepthsUptoCard

/-- THE SECOND FORM's CARD OF 'sievelaw18.EventChecks'. -/
def eventChecksUptoCard : Claim7 := { stood := { row := eventChecksUptoRow, standIns := [], harness := (true, "a7193f9f572b0b180b8c2b258e6447385179d5a88545064e0995a67a5e31f803"), looks := true }, kinds := [], alts := [], laidByText := true, laidKinds := [.listed, .data], laidTests := true, laidLooks := .later }
def EventChecksUptoCardSaid : Prop := Claim7.holds Tryd.pinned (.plain (OpenSpec.upto eventChecksSpec)) eventChecksUptoCard

/-- THE SECOND FORM's CARD OF 'sievelaw18.EventTrims'. -/
def eventTrimsUptoCard : Claim7 := { stood := { row := eventTrimsUptoRow, standIns := [], harness := (true, "a7193f9f572b0b180b8c2b258e6447385179d5a88545064e0995a67a5e31f803"), looks := true }, kinds := [], alts := [], laidByText := true, laidKinds := [.listed, .data], laidTests := true, laidLooks := .later }
def EventTrimsUptoCardSaid : Prop := Claim7.holds Tryd.pinned (.plain (OpenSpec.upto eventTrimsSpec)) eventTrimsUptoCard

/-- THE SECOND FORM's CARD OF 'sievelaw18.EventShallow'. -/
def eventShallowUptoCard : Claim7 := { stood := { row := eventShallowUptoRow, standIns := [], harness := (true, "a7193f9f572b0b180b8c2b258e6447385179d5a88545064e0995a67a5e31f803"), looks := true }, kinds := [], alts := [], laidByText := true, laidKinds := [.listed, .data], laidTests := true, laidLooks := .later }
def EventShallowUptoCardSaid : Prop := Claim7.holds Tryd.pinned (.plain (OpenSpec.upto eventShallowSpec)) eventShallowUptoCard

/-- THE SECOND FORM's CARD OF 'sievelaw18.EventBack'. -/
def eventBackUptoCard : Claim7 := { stood := { row := eventBackUptoRow, standIns := [], harness := (true, "a7193f9f572b0b180b8c2b258e6447385179d5a88545064e0995a67a5e31f803"), looks := true }, kinds := [], alts := [], laidByText := true, laidKinds := [.data, .listed, .data, .pinned], laidTests := true, laidLooks := .later }
def EventBackUptoCardSaid : Prop := Claim7.holds Tryd.pinned (.plain (OpenSpec.upto eventBackSpec)) eventBackUptoCard
end Rows
end Go.Proofs.YthgbpgjpnaanlaaDoor
