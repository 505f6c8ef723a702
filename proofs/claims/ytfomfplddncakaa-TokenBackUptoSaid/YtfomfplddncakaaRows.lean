/-
  No cell of these rows narrows 'for every input' (looked for: loops, veiled, ifaces, maps, wideKeys, modest, calm, conditions, laid).
  DERIVED. THE GIVEN ROWS OF THIS SEAT. 6 by the template 'for every input the law returns true; each argument reads behind the call as it read before'; 0 by the template 'total and deterministic' (their statements: YtfomfplddncakaaTotals.lean).
  GIVEN WITH THE SEED: the statements are not yours to turn. If you find one false, say at which input.
  Laid BY PROGRAM, IN A SANDBOX (cutbox-rows.mjs): the forced cells as the released guide's own fill.sh prints them over the translation 07b21d730fc41b3b… (all of the seat's roots in one cut). By AI agents, Wed Nov 11 2026. No macro, syntax, notation, axiom, sorry.
-/
import Derived.Test.YtfomfplddncakaaChecked
import GoSem.Claim
import GoSem.ClaimJoined
import GoSem.ClaimMapViews
import Derived.JoinedTies
import Derived.KernelRfl
namespace Go.Proofs.Ytfomfplddncakaa
/- THE CELL 'sum', in the pinned program and in every row, IS THE sha256 OF THE DUMP (.gsa) THAT YtfomfplddncakaaProg.lean LOADS. Nothing in Lean hashes anything: it is a label: what it is worth is what the hold of that sum in a sandbox is worth. -/
noncomputable def Try.pinned : Pinned := { name := "ytfomfplddncakaa", sum := "07b21d730fc41b3bd6044c10aad943afc9e0bf56537d057f1176e1de1011b4cc", checked := Try.checked }
namespace Rows
def none {H : Type} : Left H := { results := [], args := [] }

/-- 'sievelaw07.TokenNames': WHATEVER THE INPUT: true; the input reads as it did. -/
def tokenNamesSpec : ChangeSpec := { name := "tokenNames", fn := fun _ => fun
  | [] => { results := [.lit (.bool true)], args := [] }
  | _ => none }
def tokenNamesRow : OpenClaim := { program := "ytfomfplddncakaa", sum := "07b21d730fc41b3bd6044c10aad943afc9e0bf56537d057f1176e1de1011b4cc", func := "sieve/sievelaw07.TokenNames", spec := "tokenNames", inPlace := ["internal/abi.NoEscape"], apart := false }
def TokenNamesSaid : Prop := tokenNamesRow.holds Try.pinned (OpenSpec.ofChange tokenNamesSpec)

/-- ITS FALSE NEIGHBOUR: 'it returns false'. Refute it at one input. -/
def tokenNamesWrong : ChangeSpec := { name := "tokenNames", fn := fun _ => fun
  | [] => { results := [.lit (.bool false)], args := [] }
  | _ => none }
def TokenNamesWrongFalsely : Prop := tokenNamesRow.holds Try.pinned (OpenSpec.ofChange tokenNamesWrong)

/-- 'sievelaw07.TokenPrints': WHATEVER THE INPUT: true; the input reads as it did. -/
def tokenPrintsSpec : ChangeSpec := { name := "tokenPrints", fn := fun _ => fun
  | [d] => { results := [.lit (.bool true)], args := [d] }
  | _ => none }
def tokenPrintsRow : OpenClaim := { program := "ytfomfplddncakaa", sum := "07b21d730fc41b3bd6044c10aad943afc9e0bf56537d057f1176e1de1011b4cc", func := "sieve/sievelaw07.TokenPrints", spec := "tokenPrints", inPlace := ["internal/abi.NoEscape"], apart := false }
def TokenPrintsSaid : Prop := tokenPrintsRow.holds Try.pinned (OpenSpec.ofChange tokenPrintsSpec)

/-- ITS FALSE NEIGHBOUR: 'it returns false'. Refute it at one input. -/
def tokenPrintsWrong : ChangeSpec := { name := "tokenPrints", fn := fun _ => fun
  | [d] => { results := [.lit (.bool false)], args := [d] }
  | _ => none }
def TokenPrintsWrongFalsely : Prop := tokenPrintsRow.holds Try.pinned (OpenSpec.ofChange tokenPrintsWrong)

/-- 'sievelaw07.TokenChecks': WHATEVER THE INPUT: true; the input reads as it did. -/
def tokenChecksSpec : ChangeSpec := { name := "tokenChecks", fn := fun _ => fun
  | [d1, d2, d3] => { results := [.lit (.bool true)], args := [d1, d2, d3] }
  | _ => none }
def tokenChecksRow : OpenClaim := { program := "ytfomfplddncakaa", sum := "07b21d730fc41b3bd6044c10aad943afc9e0bf56537d057f1176e1de1011b4cc", func := "sieve/sievelaw07.TokenChecks", spec := "tokenChecks", inPlace := ["internal/abi.NoEscape"], apart := false }
def TokenChecksSaid : Prop := tokenChecksRow.holds Try.pinned (OpenSpec.ofChange tokenChecksSpec)

/-- ITS FALSE NEIGHBOUR: 'it returns false'. Refute it at one input. -/
def tokenChecksWrong : ChangeSpec := { name := "tokenChecks", fn := fun _ => fun
  | [d1, d2, d3] => { results := [.lit (.bool false)], args := [d1, d2, d3] }
  | _ => none }
def TokenChecksWrongFalsely : Prop := tokenChecksRow.holds Try.pinned (OpenSpec.ofChange tokenChecksWrong)

/-- 'sievelaw07.TokenMerges': WHATEVER THE INPUT: true; the input reads as it did. -/
def tokenMergesSpec : ChangeSpec := { name := "tokenMerges", fn := fun _ => fun
  | [d] => { results := [.lit (.bool true)], args := [d] }
  | _ => none }
def tokenMergesRow : OpenClaim := { program := "ytfomfplddncakaa", sum := "07b21d730fc41b3bd6044c10aad943afc9e0bf56537d057f1176e1de1011b4cc", func := "sieve/sievelaw07.TokenMerges", spec := "tokenMerges", inPlace := ["internal/abi.NoEscape"], apart := false }
def TokenMergesSaid : Prop := tokenMergesRow.holds Try.pinned (OpenSpec.ofChange tokenMergesSpec)

/-- ITS FALSE NEIGHBOUR: 'it returns false'. Refute it at one input. -/
def tokenMergesWrong : ChangeSpec := { name := "tokenMerges", fn := fun _ => fun
  | [d] => { results := [.lit (.bool false)], args := [d] }
  | _ => none }
def TokenMergesWrongFalsely : Prop := tokenMergesRow.holds Try.pinned (OpenSpec.ofChange tokenMergesWrong)

/-- 'sievelaw07.TokenParses': WHATEVER THE INPUT: true; the input reads as it did. -/
def tokenParsesSpec : ChangeSpec := { name := "tokenParses", fn := fun _ => fun
  | [d] => { results := [.lit (.bool true)], args := [d] }
  | _ => none }
def tokenParsesRow : OpenClaim := { program := "ytfomfplddncakaa", sum := "07b21d730fc41b3bd6044c10aad943afc9e0bf56537d057f1176e1de1011b4cc", func := "sieve/sievelaw07.TokenParses", spec := "tokenParses", inPlace := ["internal/bytealg.IndexByteString", "internal/bytealg.IndexString", "internal/abi.NoEscape"], unfollowed := true, recurses := true, named := ["internal/bytealg.MaxLen"], apart := false }
def TokenParsesSaid : Prop := tokenParsesRow.holds Try.pinned (OpenSpec.ofChange tokenParsesSpec)

/-- ITS FALSE NEIGHBOUR: 'it returns false'. Refute it at one input. -/
def tokenParsesWrong : ChangeSpec := { name := "tokenParses", fn := fun _ => fun
  | [d] => { results := [.lit (.bool false)], args := [d] }
  | _ => none }
def TokenParsesWrongFalsely : Prop := tokenParsesRow.holds Try.pinned (OpenSpec.ofChange tokenParsesWrong)

/-- 'sievelaw07.TokenBack': WHATEVER THE INPUT: true; the input reads as it did. -/
def tokenBackSpec : ChangeSpec := { name := "tokenBack", fn := fun _ => fun
  | [d1, d2, d3] => { results := [.lit (.bool true)], args := [d1, d2, d3] }
  | _ => none }
def tokenBackRow : OpenClaim := { program := "ytfomfplddncakaa", sum := "07b21d730fc41b3bd6044c10aad943afc9e0bf56537d057f1176e1de1011b4cc", func := "sieve/sievelaw07.TokenBack", spec := "tokenBack", inPlace := ["internal/abi.NoEscape", "internal/bytealg.IndexByteString", "internal/bytealg.IndexString"], unfollowed := true, recurses := true, named := ["internal/bytealg.MaxLen"], apart := false }
def TokenBackSaid : Prop := tokenBackRow.holds Try.pinned (OpenSpec.ofChange tokenBackSpec)

/-- ITS FALSE NEIGHBOUR: 'it returns false'. Refute it at one input. -/
def tokenBackWrong : ChangeSpec := { name := "tokenBack", fn := fun _ => fun
  | [d1, d2, d3] => { results := [.lit (.bool false)], args := [d1, d2, d3] }
  | _ => none }
def TokenBackWrongFalsely : Prop := tokenBackRow.holds Try.pinned (OpenSpec.ofChange tokenBackWrong)

/- THE SECOND FORM. 'bulk': how many values and letters a reading holds, each counted each time it is reached (what is shared counts as often as it is met; a slice's spare places count too). A statement '..UptoSaid' is the law's where the arguments, and the package variables that the reading takes, are together of bulk at most 1048576: NARROWER than '..Said'. Prove '..Said' where nothing that the law and all that it calls make is longer than what came in: it says more and counts as full. Else prove '..UptoSaid'. A law counts once. -/
mutual
def uptoBulk {H : Type} : DataW H → Nat
  | .lit (.string bytes) => bytes.length + 1
  | .lit _ => 1
  | .nil => 1
  | .ptr d => uptoBulk d + 1
  | .slice elems spare => uptoBulkAll elems + uptoBulkAll spare + 1
  | .agg parts => uptoBulkAll parts + 1
  | .iface _ d => uptoBulk d + 1
  | .map entries => uptoBulkEntries entries + 1
  | .held _ => 1
def uptoBulkAll {H : Type} : List (DataW H) → Nat
  | [] => 0
  | d :: r => uptoBulk d + uptoBulkAll r
def uptoBulkEntries {H : Type} : List (Lit × DataW H) → Nat
  | [] => 0
  | x :: r => uptoBulkEntry x + uptoBulkEntries r
def uptoBulkEntry {H : Type} : Lit × DataW H → Nat
  | (.string bytes, d) => bytes.length + uptoBulk d + 1
  | (_, d) => uptoBulk d + 1
 end
def uptoSmall : (H : Type) → List (DataW H) → Bool := fun _ ds => decide (uptoBulkAll ds ≤ 1048576)
def OpenSpec.upto (s : _root_.Go.ChangeSpec) : _root_.Go.OpenSpec := { _root_.Go.OpenSpec.ofChange s with cond := some uptoSmall }

/-- 'sievelaw07.TokenNames', WHERE WHAT IT READS IS OF BULK AT MOST 1048576: true; the input reads as it did. -/
def tokenNamesUptoRow : OpenClaim := { program := "ytfomfplddncakaa", sum := "07b21d730fc41b3bd6044c10aad943afc9e0bf56537d057f1176e1de1011b4cc", func := "sieve/sievelaw07.TokenNames", spec := "tokenNames", inPlace := ["internal/abi.NoEscape"], apart := false, narrowed := true }
def TokenNamesUptoSaid : Prop := tokenNamesUptoRow.holds Try.pinned (OpenSpec.upto tokenNamesSpec)

/-- 'sievelaw07.TokenPrints', WHERE WHAT IT READS IS OF BULK AT MOST 1048576: true; the input reads as it did. -/
def tokenPrintsUptoRow : OpenClaim := { program := "ytfomfplddncakaa", sum := "07b21d730fc41b3bd6044c10aad943afc9e0bf56537d057f1176e1de1011b4cc", func := "sieve/sievelaw07.TokenPrints", spec := "tokenPrints", inPlace := ["internal/abi.NoEscape"], apart := false, narrowed := true }
def TokenPrintsUptoSaid : Prop := tokenPrintsUptoRow.holds Try.pinned (OpenSpec.upto tokenPrintsSpec)

/-- 'sievelaw07.TokenChecks', WHERE WHAT IT READS IS OF BULK AT MOST 1048576: true; the input reads as it did. -/
def tokenChecksUptoRow : OpenClaim := { program := "ytfomfplddncakaa", sum := "07b21d730fc41b3bd6044c10aad943afc9e0bf56537d057f1176e1de1011b4cc", func := "sieve/sievelaw07.TokenChecks", spec := "tokenChecks", inPlace := ["internal/abi.NoEscape"], apart := false, narrowed := true }
def TokenChecksUptoSaid : Prop := tokenChecksUptoRow.holds Try.pinned (OpenSpec.upto tokenChecksSpec)

/-- 'sievelaw07.TokenMerges', WHERE WHAT IT READS IS OF BULK AT MOST 1048576: true; the input reads as it did. -/
def tokenMergesUptoRow : OpenClaim := { program := "ytfomfplddncakaa", sum := "07b21d730fc41b3bd6044c10aad943afc9e0bf56537d057f1176e1de1011b4cc", func := "sieve/sievelaw07.TokenMerges", spec := "tokenMerges", inPlace := ["internal/abi.NoEscape"], apart := false, narrowed := true }
def TokenMergesUptoSaid : Prop := tokenMergesUptoRow.holds Try.pinned (OpenSpec.upto tokenMergesSpec)

/-- 'sievelaw07.TokenParses', WHERE WHAT IT READS IS OF BULK AT MOST 1048576: true; the input reads as it did. -/
def tokenParsesUptoRow : OpenClaim := { program := "ytfomfplddncakaa", sum := "07b21d730fc41b3bd6044c10aad943afc9e0bf56537d057f1176e1de1011b4cc", func := "sieve/sievelaw07.TokenParses", spec := "tokenParses", inPlace := ["internal/bytealg.IndexByteString", "internal/bytealg.IndexString", "internal/abi.NoEscape"], unfollowed := true, recurses := true, named := ["internal/bytealg.MaxLen"], apart := false, narrowed := true }
def TokenParsesUptoSaid : Prop := tokenParsesUptoRow.holds Try.pinned (OpenSpec.upto tokenParsesSpec)

/-- 'sievelaw07.TokenBack', WHERE WHAT IT READS IS OF BULK AT MOST 1048576: true; the input reads as it did. -/
def tokenBackUptoRow : OpenClaim := { program := "ytfomfplddncakaa", sum := "07b21d730fc41b3bd6044c10aad943afc9e0bf56537d057f1176e1de1011b4cc", func := "sieve/sievelaw07.TokenBack", spec := "tokenBack", inPlace := ["internal/abi.NoEscape", "internal/bytealg.IndexByteString", "internal/bytealg.IndexString"], unfollowed := true, recurses := true, named := ["internal/bytealg.MaxLen"], apart := false, narrowed := true }
def TokenBackUptoSaid : Prop := tokenBackUptoRow.holds Try.pinned (OpenSpec.upto tokenBackSpec)

end Rows
end Go.Proofs.Ytfomfplddncakaa
