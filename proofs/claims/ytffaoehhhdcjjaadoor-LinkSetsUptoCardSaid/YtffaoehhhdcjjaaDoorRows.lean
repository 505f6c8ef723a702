/-
  NARROWER THAN 'FOR EVERY INPUT', by the rows' own cells (each row's printed sentence says how): LinkKinds: laid · LinkHides: laid · LinkPairs: laid · LinkSets: laid.
  DERIVED. THE GIVEN ROWS OF THIS SEAT. 4 by the template 'for every input the law returns true; each argument reads behind the call as it read before'; 0 by the template 'total and deterministic' (their statements: YtffaoehhhdcjjaaDoorTotals.lean).
  GIVEN WITH THE SEED: the statements are not yours to turn. If you find one false, say at which input.
  Laid BY PROGRAM, IN A SANDBOX (cutbox-rows.mjs): the forced cells as the released guide's own fill.sh prints them over the translation 9e217d985308396b… (all of the seat's roots in one cut). By AI agents, Wed Nov 11 2026. No macro, syntax, notation, axiom, sorry.
-/
import Derived.Test.YtffaoehhhdcjjaaDoorChecked
import GoSem.PinnedTables
import GoSem.Claim
import GoSem.ClaimJoined
import GoSem.ClaimMapViews
import Derived.JoinedTies
import Derived.KernelRfl
namespace Go.Proofs.YtffaoehhhdcjjaaDoor
/- THE CELL 'sum', in the pinned program and in every row, IS THE sha256 OF THE DUMP (.gsa) THAT YtffaoehhhdcjjaaDoorProg.lean LOADS. Nothing in Lean hashes anything: it is a label: what it is worth is what the hold of that sum in a sandbox is worth. -/
noncomputable def Tryd.pinned : Pinned := { name := "ytffaoehhhdcjjaadoor", sum := "9e217d985308396bf2dfc9f5006a9db10bdbf59f590905d733b22ae06bfc79ba", checked := Tryd.checked }
namespace Rows
def none {H : Type} : Left H := { results := [], args := [] }

/- WHAT THE LISTED PACKAGE-LEVEL VARIABLES READ AS WHEN THE CALL BEGINS. Each datum BY PROGRAM (the guide's laid-datum.mjs) off the statement by which the dump's own 'gosem.cut.vars' lays the variable. In a bare row this is a premise. The card (YtffaoehhhdcjjaaDoorCards.lean) ties it to the program's text. -/
def laid_sieve_link_never {H : Type} : DataW H := .agg [.lit (.string [106, 97, 118, 97, 115, 99, 114, 105, 112, 116]), .lit (.string [100, 97, 116, 97]), .lit (.string [118, 98, 115, 99, 114, 105, 112, 116]), .lit (.string [98, 108, 111, 98]), .lit (.string [102, 105, 108, 101]), .lit (.string [102, 105, 108, 101, 115, 121, 115, 116, 101, 109]), .lit (.string [97, 98, 111, 117, 116])]
def laid_unicode_utf8_acceptRanges {H : Type} : DataW H := .agg [.agg [.lit (.int .u8 128), .lit (.int .u8 191)], .agg [.lit (.int .u8 160), .lit (.int .u8 191)], .agg [.lit (.int .u8 128), .lit (.int .u8 159)], .agg [.lit (.int .u8 144), .lit (.int .u8 191)], .agg [.lit (.int .u8 128), .lit (.int .u8 143)], .agg [.lit (.int .u8 0), .lit (.int .u8 0)], .agg [.lit (.int .u8 0), .lit (.int .u8 0)], .agg [.lit (.int .u8 0), .lit (.int .u8 0)], .agg [.lit (.int .u8 0), .lit (.int .u8 0)], .agg [.lit (.int .u8 0), .lit (.int .u8 0)], .agg [.lit (.int .u8 0), .lit (.int .u8 0)], .agg [.lit (.int .u8 0), .lit (.int .u8 0)], .agg [.lit (.int .u8 0), .lit (.int .u8 0)], .agg [.lit (.int .u8 0), .lit (.int .u8 0)], .agg [.lit (.int .u8 0), .lit (.int .u8 0)], .agg [.lit (.int .u8 0), .lit (.int .u8 0)]]
/-- One of Go's own tables, pinned by name: the form's constant. -/
def laid_unicode_utf8_first : DataW Unit := Go.Pinned.utf8First

/-- 'sievelaw12.LinkKinds': WHATEVER THE INPUT: true; the input reads as it did. -/
def linkKindsSpec : ChangeSpec := { name := "linkKinds", fn := fun _ => fun
  | [d1, d2] => { results := [.lit (.bool true)], args := [d1, d2] }
  | _ => none }
def linkKindsRow : OpenClaim := { program := "ytffaoehhhdcjjaadoor", sum := "9e217d985308396bf2dfc9f5006a9db10bdbf59f590905d733b22ae06bfc79ba", func := "sieve/sievelaw12.LinkKinds", spec := "linkKinds", inPlace := ["internal/bytealg.IndexByteString", "internal/abi.NoEscape"], unfollowed := true, recurses := true, named := ["sieve/link.never"], apart := false, laid := [("sieve/link.never", laid_sieve_link_never)] }
def LinkKindsSaid : Prop := linkKindsRow.holds Tryd.pinned (OpenSpec.ofChange linkKindsSpec)

/-- ITS FALSE NEIGHBOUR: 'it returns false'. Refute it at one input. -/
def linkKindsWrong : ChangeSpec := { name := "linkKinds", fn := fun _ => fun
  | [d1, d2] => { results := [.lit (.bool false)], args := [d1, d2] }
  | _ => none }
def LinkKindsWrongFalsely : Prop := linkKindsRow.holds Tryd.pinned (OpenSpec.ofChange linkKindsWrong)

/-- 'sievelaw12.LinkHides': WHATEVER THE INPUT: true; the input reads as it did. -/
def linkHidesSpec : ChangeSpec := { name := "linkHides", fn := fun _ => fun
  | [d1, d2, d3] => { results := [.lit (.bool true)], args := [d1, d2, d3] }
  | _ => none }
def linkHidesRow : OpenClaim := { program := "ytffaoehhhdcjjaadoor", sum := "9e217d985308396bf2dfc9f5006a9db10bdbf59f590905d733b22ae06bfc79ba", func := "sieve/sievelaw12.LinkHides", spec := "linkHides", inPlace := ["internal/bytealg.IndexByteString", "internal/abi.NoEscape"], unfollowed := true, recurses := true, named := ["sieve/link.never"], apart := false, laid := [("sieve/link.never", laid_sieve_link_never)] }
def LinkHidesSaid : Prop := linkHidesRow.holds Tryd.pinned (OpenSpec.ofChange linkHidesSpec)

/-- ITS FALSE NEIGHBOUR: 'it returns false'. Refute it at one input. -/
def linkHidesWrong : ChangeSpec := { name := "linkHides", fn := fun _ => fun
  | [d1, d2, d3] => { results := [.lit (.bool false)], args := [d1, d2, d3] }
  | _ => none }
def LinkHidesWrongFalsely : Prop := linkHidesRow.holds Tryd.pinned (OpenSpec.ofChange linkHidesWrong)

/-- 'sievelaw12.LinkPairs': WHATEVER THE INPUT: true; the input reads as it did. -/
def linkPairsSpec : ChangeSpec := { name := "linkPairs", fn := fun _ => fun
  | [d1, d2, d3] => { results := [.lit (.bool true)], args := [d1, d2, d3] }
  | _ => none }
def linkPairsRow : OpenClaim := { program := "ytffaoehhhdcjjaadoor", sum := "9e217d985308396bf2dfc9f5006a9db10bdbf59f590905d733b22ae06bfc79ba", func := "sieve/sievelaw12.LinkPairs", spec := "linkPairs", inPlace := ["internal/bytealg.CountString", "internal/bytealg.IndexByteString", "internal/bytealg.IndexString", "internal/abi.NoEscape", "internal/bytealg.MakeNoZero"], unfollowed := true, recurses := true, named := ["internal/bytealg.MaxLen", "unicode/utf8.first", "unicode/utf8.acceptRanges"], apart := false, laid := [("unicode/utf8.acceptRanges", laid_unicode_utf8_acceptRanges), ("unicode/utf8.first", laid_unicode_utf8_first)] }
def LinkPairsSaid : Prop := linkPairsRow.holds Tryd.pinned (OpenSpec.ofChange linkPairsSpec)

/-- ITS FALSE NEIGHBOUR: 'it returns false'. Refute it at one input. -/
def linkPairsWrong : ChangeSpec := { name := "linkPairs", fn := fun _ => fun
  | [d1, d2, d3] => { results := [.lit (.bool false)], args := [d1, d2, d3] }
  | _ => none }
def LinkPairsWrongFalsely : Prop := linkPairsRow.holds Tryd.pinned (OpenSpec.ofChange linkPairsWrong)

/-- 'sievelaw12.LinkSets': WHATEVER THE INPUT: true; the input reads as it did. -/
def linkSetsSpec : ChangeSpec := { name := "linkSets", fn := fun _ => fun
  | [d1, d2] => { results := [.lit (.bool true)], args := [d1, d2] }
  | _ => none }
def linkSetsRow : OpenClaim := { program := "ytffaoehhhdcjjaadoor", sum := "9e217d985308396bf2dfc9f5006a9db10bdbf59f590905d733b22ae06bfc79ba", func := "sieve/sievelaw12.LinkSets", spec := "linkSets", inPlace := ["internal/bytealg.IndexByteString", "internal/bytealg.IndexString", "internal/abi.NoEscape", "internal/bytealg.MakeNoZero"], unfollowed := true, recurses := true, named := ["unicode/utf8.first", "unicode/utf8.acceptRanges", "internal/bytealg.MaxLen"], apart := false, laid := [("unicode/utf8.acceptRanges", laid_unicode_utf8_acceptRanges), ("unicode/utf8.first", laid_unicode_utf8_first)] }
def LinkSetsSaid : Prop := linkSetsRow.holds Tryd.pinned (OpenSpec.ofChange linkSetsSpec)

/-- ITS FALSE NEIGHBOUR: 'it returns false'. Refute it at one input. -/
def linkSetsWrong : ChangeSpec := { name := "linkSets", fn := fun _ => fun
  | [d1, d2] => { results := [.lit (.bool false)], args := [d1, d2] }
  | _ => none }
def LinkSetsWrongFalsely : Prop := linkSetsRow.holds Tryd.pinned (OpenSpec.ofChange linkSetsWrong)

/- THE SECOND FORM. 'bulk': how many values and letters a reading holds, each counted each time it is reached (what is shared counts as often as it is met; a slice's spare places count too). A statement '..UptoSaid' is the law's where the arguments, and the package variables that the reading takes, are together of bulk at most 1048576: NARROWER than '..Said'. Prove '..Said' where nothing that the law and all that it calls make is longer than what came in: it says more and counts as full. Else prove '..UptoSaid'. A law counts once. -/
mutual
def uptoBulk {H : Type} : DataW H → Nat
  | .lit (.string bytes) => bytes.length + 1
  | .lit _ => 1
  | .nil => 1
  | .ptr d => uptoBulk d + 1
  | .slice elems spare => uptoBulkAll elems + uptoBulkAll spare + 1
  | .agg parts => uptoBulkAll parts + 1
  | .iface _ d => uptoBulk d + 1
  | .map entries => uptoBulkEntries entries + 1
  | .held _ => 1
def uptoBulkAll {H : Type} : List (DataW H) → Nat
  | [] => 0
  | d :: r => uptoBulk d + uptoBulkAll r
def uptoBulkEntries {H : Type} : List (Lit × DataW H) → Nat
  | [] => 0
  | x :: r => uptoBulkEntry x + uptoBulkEntries r
def uptoBulkEntry {H : Type} : Lit × DataW H → Nat
  | (.string bytes, d) => bytes.length + uptoBulk d + 1
  | (_, d) => uptoBulk d + 1
 end
def uptoSmall : (H : Type) → List (DataW H) → Bool := fun _ ds => decide (uptoBulkAll ds ≤ 1048576)
def OpenSpec.upto (s : _root_.Go.ChangeSpec) : _root_.Go.OpenSpec := { _root_.Go.OpenSpec.ofChange s with cond := some uptoSmall }

/-- 'sievelaw12.LinkKinds', WHERE WHAT IT READS IS OF BULK AT MOST 1048576: true; the input reads as it did. -/
def linkKindsUptoRow : OpenClaim := { program := "ytffaoehhhdcjjaadoor", sum := "9e217d985308396bf2dfc9f5006a9db10bdbf59f590905d733b22ae06bfc79ba", func := "sieve/sievelaw12.LinkKinds", spec := "linkKinds", inPlace := ["internal/bytealg.IndexByteString", "internal/abi.NoEscape"], unfollowed := true, recurses := true, named := ["sieve/link.never"], apart := false, laid := [("sieve/link.never", laid_sieve_link_never)], narrowed := true }
def LinkKindsUptoSaid : Prop := linkKindsUptoRow.holds Tryd.pinned (OpenSpec.upto linkKindsSpec)

/-- 'sievelaw12.LinkHides', WHERE WHAT IT READS IS OF BULK AT MOST 1048576: true; the input reads as it did. -/
def linkHidesUptoRow : OpenClaim := { program := "ytffaoehhhdcjjaadoor", sum := "9e217d985308396bf2dfc9f5006a9db10bdbf59f590905d733b22ae06bfc79ba", func := "sieve/sievelaw12.LinkHides", spec := "linkHides", inPlace := ["internal/bytealg.IndexByteString", "internal/abi.NoEscape"], unfollowed := true, recurses := true, named := ["sieve/link.never"], apart := false, laid := [("sieve/link.never", laid_sieve_link_never)], narrowed := true }
def LinkHidesUptoSaid : Prop := linkHidesUptoRow.holds Tryd.pinned (OpenSpec.upto linkHidesSpec)

/-- 'sievelaw12.LinkPairs', WHERE WHAT IT READS IS OF BULK AT MOST 1048576: true; the input reads as it did. -/
def linkPairsUptoRow : OpenClaim := { program := "ytffaoehhhdcjjaadoor", sum := "9e217d985308396bf2dfc9f5006a9db10bdbf59f590905d733b22ae06bfc79ba", func := "sieve/sievelaw12.LinkPairs", spec := "linkPairs", inPlace := ["internal/bytealg.CountString", "internal/bytealg.IndexByteString", "internal/bytealg.IndexString", "internal/abi.NoEscape", "internal/bytealg.MakeNoZero"], unfollowed := true, recurses := true, named := ["internal/bytealg.MaxLen", "unicode/utf8.first", "unicode/utf8.acceptRanges"], apart := false, laid := [("unicode/utf8.acceptRanges", laid_unicode_utf8_acceptRanges), ("unicode/utf8.first", laid_unicode_utf8_first)], narrowed := true }
def LinkPairsUptoSaid : Prop := linkPairsUptoRow.holds Tryd.pinned (OpenSpec.upto linkPairsSpec)

/-- 'sievelaw12.LinkSets', WHERE WHAT IT READS IS OF BULK AT MOST 1048576: true; the input reads as it did. -/
def linkSetsUptoRow : OpenClaim := { program := "ytffaoehhhdcjjaadoor", sum := "9e217d985308396bf2dfc9f5006a9db10bdbf59f590905d733b22ae06bfc79ba", func := "sieve/sievelaw12.LinkSets", spec := "linkSets", inPlace := ["internal/bytealg.IndexByteString", "internal/bytealg.IndexString", "internal/abi.NoEscape", "internal/bytealg.MakeNoZero"], unfollowed := true, recurses := true, named := ["unicode/utf8.first", "unicode/utf8.acceptRanges", "internal/bytealg.MaxLen"], apart := false, laid := [("unicode/utf8.acceptRanges", laid_unicode_utf8_acceptRanges), ("unicode/utf8.first", laid_unicode_utf8_first)], narrowed := true }
def LinkSetsUptoSaid : Prop := linkSetsUptoRow.holds Tryd.pinned (OpenSpec.upto linkSetsSpec)

end Rows
end Go.Proofs.YtffaoehhhdcjjaaDoor
