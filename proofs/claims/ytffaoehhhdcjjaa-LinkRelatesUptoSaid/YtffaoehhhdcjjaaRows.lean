/-
  No cell of these rows narrows 'for every input' (looked for: loops, veiled, ifaces, maps, wideKeys, modest, calm, conditions, laid).
  DERIVED. THE GIVEN ROWS OF THIS SEAT. 5 by the template 'for every input the law returns true; each argument reads behind the call as it read before'; 0 by the template 'total and deterministic' (their statements: YtffaoehhhdcjjaaTotals.lean).
  GIVEN WITH THE SEED: the statements are not yours to turn. If you find one false, say at which input.
  Laid BY PROGRAM, IN A SANDBOX (cutbox-rows.mjs): the forced cells as the released guide's own fill.sh prints them over the translation 28c5e6078daec60b… (all of the seat's roots in one cut). By AI agents, Wed Nov 11 2026. No macro, syntax, notation, axiom, sorry.
-/
import Derived.Test.YtffaoehhhdcjjaaChecked
import GoSem.Claim
import GoSem.ClaimJoined
import GoSem.ClaimMapViews
import Derived.JoinedTies
import Derived.KernelRfl
namespace Go.Proofs.Ytffaoehhhdcjjaa
/- THE CELL 'sum', in the pinned program and in every row, IS THE sha256 OF THE DUMP (.gsa) THAT YtffaoehhhdcjjaaProg.lean LOADS. Nothing in Lean hashes anything: it is a label: what it is worth is what the hold of that sum in a sandbox is worth. -/
noncomputable def Try.pinned : Pinned := { name := "ytffaoehhhdcjjaa", sum := "28c5e6078daec60b6841c36d3e11cd8be5b122fd85b0890ffb60bf9e9e0f6276", checked := Try.checked }
namespace Rows
def none {H : Type} : Left H := { results := [], args := [] }

/-- 'sievelaw12.LinkNames': WHATEVER THE INPUT: true; the input reads as it did. -/
def linkNamesSpec : ChangeSpec := { name := "linkNames", fn := fun _ => fun
  | [] => { results := [.lit (.bool true)], args := [] }
  | _ => none }
def linkNamesRow : OpenClaim := { program := "ytffaoehhhdcjjaa", sum := "28c5e6078daec60b6841c36d3e11cd8be5b122fd85b0890ffb60bf9e9e0f6276", func := "sieve/sievelaw12.LinkNames", spec := "linkNames", inPlace := ["internal/bytealg.IndexByteString", "internal/abi.NoEscape"], unfollowed := true, recurses := true, apart := false }
def LinkNamesSaid : Prop := linkNamesRow.holds Try.pinned (OpenSpec.ofChange linkNamesSpec)

/-- ITS FALSE NEIGHBOUR: 'it returns false'. Refute it at one input. -/
def linkNamesWrong : ChangeSpec := { name := "linkNames", fn := fun _ => fun
  | [] => { results := [.lit (.bool false)], args := [] }
  | _ => none }
def LinkNamesWrongFalsely : Prop := linkNamesRow.holds Try.pinned (OpenSpec.ofChange linkNamesWrong)

/-- 'sievelaw12.LinkEscapes': WHATEVER THE INPUT: true; the input reads as it did. -/
def linkEscapesSpec : ChangeSpec := { name := "linkEscapes", fn := fun _ => fun
  | [d1, d2] => { results := [.lit (.bool true)], args := [d1, d2] }
  | _ => none }
def linkEscapesRow : OpenClaim := { program := "ytffaoehhhdcjjaa", sum := "28c5e6078daec60b6841c36d3e11cd8be5b122fd85b0890ffb60bf9e9e0f6276", func := "sieve/sievelaw12.LinkEscapes", spec := "linkEscapes", inPlace := ["internal/bytealg.IndexByteString", "internal/abi.NoEscape"], unfollowed := true, recurses := true, apart := false }
def LinkEscapesSaid : Prop := linkEscapesRow.holds Try.pinned (OpenSpec.ofChange linkEscapesSpec)

/-- ITS FALSE NEIGHBOUR: 'it returns false'. Refute it at one input. -/
def linkEscapesWrong : ChangeSpec := { name := "linkEscapes", fn := fun _ => fun
  | [d1, d2] => { results := [.lit (.bool false)], args := [d1, d2] }
  | _ => none }
def LinkEscapesWrongFalsely : Prop := linkEscapesRow.holds Try.pinned (OpenSpec.ofChange linkEscapesWrong)

/-- 'sievelaw12.LinkNothing': WHATEVER THE INPUT: true; the input reads as it did. -/
def linkNothingSpec : ChangeSpec := { name := "linkNothing", fn := fun _ => fun
  | [d] => { results := [.lit (.bool true)], args := [d] }
  | _ => none }
def linkNothingRow : OpenClaim := { program := "ytffaoehhhdcjjaa", sum := "28c5e6078daec60b6841c36d3e11cd8be5b122fd85b0890ffb60bf9e9e0f6276", func := "sieve/sievelaw12.LinkNothing", spec := "linkNothing", inPlace := ["internal/bytealg.IndexByteString", "internal/abi.NoEscape"], unfollowed := true, recurses := true, apart := false }
def LinkNothingSaid : Prop := linkNothingRow.holds Try.pinned (OpenSpec.ofChange linkNothingSpec)

/-- ITS FALSE NEIGHBOUR: 'it returns false'. Refute it at one input. -/
def linkNothingWrong : ChangeSpec := { name := "linkNothing", fn := fun _ => fun
  | [d] => { results := [.lit (.bool false)], args := [d] }
  | _ => none }
def LinkNothingWrongFalsely : Prop := linkNothingRow.holds Try.pinned (OpenSpec.ofChange linkNothingWrong)

/-- 'sievelaw12.LinkResolves': WHATEVER THE INPUT: true; the input reads as it did. -/
def linkResolvesSpec : ChangeSpec := { name := "linkResolves", fn := fun _ => fun
  | [d1, d2] => { results := [.lit (.bool true)], args := [d1, d2] }
  | _ => none }
def linkResolvesRow : OpenClaim := { program := "ytffaoehhhdcjjaa", sum := "28c5e6078daec60b6841c36d3e11cd8be5b122fd85b0890ffb60bf9e9e0f6276", func := "sieve/sievelaw12.LinkResolves", spec := "linkResolves", inPlace := ["internal/bytealg.IndexByteString", "internal/abi.NoEscape"], unfollowed := true, recurses := true, apart := false }
def LinkResolvesSaid : Prop := linkResolvesRow.holds Try.pinned (OpenSpec.ofChange linkResolvesSpec)

/-- ITS FALSE NEIGHBOUR: 'it returns false'. Refute it at one input. -/
def linkResolvesWrong : ChangeSpec := { name := "linkResolves", fn := fun _ => fun
  | [d1, d2] => { results := [.lit (.bool false)], args := [d1, d2] }
  | _ => none }
def LinkResolvesWrongFalsely : Prop := linkResolvesRow.holds Try.pinned (OpenSpec.ofChange linkResolvesWrong)

/-- 'sievelaw12.LinkRelates': WHATEVER THE INPUT: true; the input reads as it did. -/
def linkRelatesSpec : ChangeSpec := { name := "linkRelates", fn := fun _ => fun
  | [d1, d2] => { results := [.lit (.bool true)], args := [d1, d2] }
  | _ => none }
def linkRelatesRow : OpenClaim := { program := "ytffaoehhhdcjjaa", sum := "28c5e6078daec60b6841c36d3e11cd8be5b122fd85b0890ffb60bf9e9e0f6276", func := "sieve/sievelaw12.LinkRelates", spec := "linkRelates", inPlace := ["internal/bytealg.IndexByteString", "internal/abi.NoEscape"], unfollowed := true, recurses := true, apart := false }
def LinkRelatesSaid : Prop := linkRelatesRow.holds Try.pinned (OpenSpec.ofChange linkRelatesSpec)

/-- ITS FALSE NEIGHBOUR: 'it returns false'. Refute it at one input. -/
def linkRelatesWrong : ChangeSpec := { name := "linkRelates", fn := fun _ => fun
  | [d1, d2] => { results := [.lit (.bool false)], args := [d1, d2] }
  | _ => none }
def LinkRelatesWrongFalsely : Prop := linkRelatesRow.holds Try.pinned (OpenSpec.ofChange linkRelatesWrong)

/- THE SECOND FORM. 'bulk': how many values and letters a reading holds, each counted each time it is reached (what is shared counts as often as it is met; a slice's spare places count too). A statement '..UptoSaid' is the law's where the arguments, and the package variables that the reading takes, are together of bulk at most 1048576: NARROWER than '..Said'. Prove '..Said' where nothing that the law and all that it calls make is longer than what came in: it says more and counts as full. Else prove '..UptoSaid'. A law counts once. -/
mutual
def uptoBulk {H : Type} : DataW H → Nat
  | .lit (.string bytes) => bytes.length + 1
  | .lit _ => 1
  | .nil => 1
  | .ptr d => uptoBulk d + 1
  | .slice elems spare => uptoBulkAll elems + uptoBulkAll spare + 1
  | .agg parts => uptoBulkAll parts + 1
  | .iface _ d => uptoBulk d + 1
  | .map entries => uptoBulkEntries entries + 1
  | .held _ => 1
def uptoBulkAll {H : Type} : List (DataW H) → Nat
  | [] => 0
  | d :: r => uptoBulk d + uptoBulkAll r
def uptoBulkEntries {H : Type} : List (Lit × DataW H) → Nat
  | [] => 0
  | x :: r => uptoBulkEntry x + uptoBulkEntries r
def uptoBulkEntry {H : Type} : Lit × DataW H → Nat
  | (.string bytes, d) => bytes.length + uptoBulk d + 1
  | (_, d) => uptoBulk d + 1
 end
def uptoSmall : (H : Type) → List (DataW H) → Bool := fun _ ds => decide (uptoBulkAll ds ≤ 1048576)
def OpenSpec.upto (s : _root_.Go.ChangeSpec) : _root_.Go.OpenSpec := { _root_.Go.OpenSpec.ofChange s with cond := some uptoSmall }

/-- 'sievelaw12.LinkNames', WHERE WHAT IT READS IS OF BULK AT MOST 1048576: true; the input reads as it did. -/
def linkNamesUptoRow : OpenClaim := { program := "ytffaoehhhdcjjaa", sum := "28c5e6078daec60b6841c36d3e11cd8be5b122fd85b0890ffb60bf9e9e0f6276", func := "sieve/sievelaw12.LinkNames", spec := "linkNames", inPlace := ["internal/bytealg.IndexByteString", "internal/abi.NoEscape"], unfollowed := true, recurses := true, apart := false, narrowed := true }
def LinkNamesUptoSaid : Prop := linkNamesUptoRow.holds Try.pinned (OpenSpec.upto linkNamesSpec)

/-- 'sievelaw12.LinkEscapes', WHERE WHAT IT READS IS OF BULK AT MOST 1048576: true; the input reads as it did. -/
def linkEscapesUptoRow : OpenClaim := { program := "ytffaoehhhdcjjaa", sum := "28c5e6078daec60b6841c36d3e11cd8be5b122fd85b0890ffb60bf9e9e0f6276", func := "sieve/sievelaw12.LinkEscapes", spec := "linkEscapes", inPlace := ["internal/bytealg.IndexByteString", "internal/abi.NoEscape"], unfollowed := true, recurses := true, apart := false, narrowed := true }
def LinkEscapesUptoSaid : Prop := linkEscapesUptoRow.holds Try.pinned (OpenSpec.upto linkEscapesSpec)

/-- 'sievelaw12.LinkNothing', WHERE WHAT IT READS IS OF BULK AT MOST 1048576: true; the input reads as it did. -/
def linkNothingUptoRow : OpenClaim := { program := "ytffaoehhhdcjjaa", sum := "28c5e6078daec60b6841c36d3e11cd8be5b122fd85b0890ffb60bf9e9e0f6276", func := "sieve/sievelaw12.LinkNothing", spec := "linkNothing", inPlace := ["internal/bytealg.IndexByteString", "internal/abi.NoEscape"], unfollowed := true, recurses := true, apart := false, narrowed := true }
def LinkNothingUptoSaid : Prop := linkNothingUptoRow.holds Try.pinned (OpenSpec.upto linkNothingSpec)

/-- 'sievelaw12.LinkResolves', WHERE WHAT IT READS IS OF BULK AT MOST 1048576: true; the input reads as it did. -/
def linkResolvesUptoRow : OpenClaim := { program := "ytffaoehhhdcjjaa", sum := "28c5e6078daec60b6841c36d3e11cd8be5b122fd85b0890ffb60bf9e9e0f6276", func := "sieve/sievelaw12.LinkResolves", spec := "linkResolves", inPlace := ["internal/bytealg.IndexByteString", "internal/abi.NoEscape"], unfollowed := true, recurses := true, apart := false, narrowed := true }
def LinkResolvesUptoSaid : Prop := linkResolvesUptoRow.holds Try.pinned (OpenSpec.upto linkResolvesSpec)

/-- 'sievelaw12.LinkRelates', WHERE WHAT IT READS IS OF BULK AT MOST 1048576: true; the input reads as it did. -/
def linkRelatesUptoRow : OpenClaim := { program := "ytffaoehhhdcjjaa", sum := "28c5e6078daec60b6841c36d3e11cd8be5b122fd85b0890ffb60bf9e9e0f6276", func := "sieve/sievelaw12.LinkRelates", spec := "linkRelates", inPlace := ["internal/bytealg.IndexByteString", "internal/abi.NoEscape"], unfollowed := true, recurses := true, apart := false, narrowed := true }
def LinkRelatesUptoSaid : Prop := linkRelatesUptoRow.holds Try.pinned (OpenSpec.upto linkRelatesSpec)

end Rows
end Go.Proofs.Ytffaoehhhdcjjaa
