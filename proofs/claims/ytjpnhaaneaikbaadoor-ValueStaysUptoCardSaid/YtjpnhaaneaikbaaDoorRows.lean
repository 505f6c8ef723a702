/-
  NARROWER THAN 'FOR EVERY INPUT', by the rows' own cells (each row's printed sentence says how): ValueNames: laid · ValueWords: laid · ValueStays: laid · ValueYears: laid · ValueDays: laid.
  DERIVED. THE GIVEN ROWS OF THIS SEAT. 5 by the template 'for every input the law returns true; each argument reads behind the call as it read before'; 0 by the template 'total and deterministic' (their statements: YtjpnhaaneaikbaaDoorTotals.lean).
  GIVEN WITH THE SEED: the statements are not yours to turn. If you find one false, say at which input.
  Laid BY PROGRAM, IN A SANDBOX (cutbox-rows.mjs): the forced cells as the released guide's own fill.sh prints them over the translation f8fb9c42f1b81ae8… (all of the seat's roots in one cut). By AI agents, Wed Nov 11 2026. No macro, syntax, notation, axiom, sorry.
-/
import Derived.Test.YtjpnhaaneaikbaaDoorChecked
import GoSem.PinnedTables
import GoSem.Claim
import GoSem.ClaimJoined
import GoSem.ClaimMapViews
import Derived.JoinedTies
import Derived.KernelRfl
namespace Go.Proofs.YtjpnhaaneaikbaaDoor
/- THE CELL 'sum', in the pinned program and in every row, IS THE sha256 OF THE DUMP (.gsa) THAT YtjpnhaaneaikbaaDoorProg.lean LOADS. Nothing in Lean hashes anything: it is a label: what it is worth is what the hold of that sum in a sandbox is worth. -/
noncomputable def Tryd.pinned : Pinned := { name := "ytjpnhaaneaikbaadoor", sum := "f8fb9c42f1b81ae8f4fd478474b72f1a0f1ef7236bdea47d8667d342fba5351c", checked := Tryd.checked }
namespace Rows
def none {H : Type} : Left H := { results := [], args := [] }

/- WHAT THE LISTED PACKAGE-LEVEL VARIABLES READ AS WHEN THE CALL BEGINS. Each datum BY PROGRAM (the guide's laid-datum.mjs) off the statement by which the dump's own 'gosem.cut.vars' lays the variable. In a bare row this is a premise. The card (YtjpnhaaneaikbaaDoorCards.lean) ties it to the program's text. -/
def laid_unicode_utf8_acceptRanges {H : Type} : DataW H := .agg [.agg [.lit (.int .u8 128), .lit (.int .u8 191)], .agg [.lit (.int .u8 160), .lit (.int .u8 191)], .agg [.lit (.int .u8 128), .lit (.int .u8 159)], .agg [.lit (.int .u8 144), .lit (.int .u8 191)], .agg [.lit (.int .u8 128), .lit (.int .u8 143)], .agg [.lit (.int .u8 0), .lit (.int .u8 0)], .agg [.lit (.int .u8 0), .lit (.int .u8 0)], .agg [.lit (.int .u8 0), .lit (.int .u8 0)], .agg [.lit (.int .u8 0), .lit (.int .u8 0)], .agg [.lit (.int .u8 0), .lit (.int .u8 0)], .agg [.lit (.int .u8 0), .lit (.int .u8 0)], .agg [.lit (.int .u8 0), .lit (.int .u8 0)], .agg [.lit (.int .u8 0), .lit (.int .u8 0)], .agg [.lit (.int .u8 0), .lit (.int .u8 0)], .agg [.lit (.int .u8 0), .lit (.int .u8 0)], .agg [.lit (.int .u8 0), .lit (.int .u8 0)]]
def laid_sieve_link_never {H : Type} : DataW H := .agg [.lit (.string [106, 97, 118, 97, 115, 99, 114, 105, 112, 116]), .lit (.string [100, 97, 116, 97]), .lit (.string [118, 98, 115, 99, 114, 105, 112, 116]), .lit (.string [98, 108, 111, 98]), .lit (.string [102, 105, 108, 101]), .lit (.string [102, 105, 108, 101, 115, 121, 115, 116, 101, 109]), .lit (.string [97, 98, 111, 117, 116])]
/-- One of Go's own tables, pinned by name: the form's constant. -/
def laid_unicode_utf8_first : DataW Unit := Go.Pinned.utf8First

/-- 'sievelaw13.ValueNames': WHATEVER THE INPUT: true; the input reads as it did. -/
def valueNamesSpec : ChangeSpec := { name := "valueNames", fn := fun _ => fun
  | [] => { results := [.lit (.bool true)], args := [] }
  | _ => none }
def valueNamesRow : OpenClaim := { program := "ytjpnhaaneaikbaadoor", sum := "f8fb9c42f1b81ae8f4fd478474b72f1a0f1ef7236bdea47d8667d342fba5351c", func := "sieve/sievelaw13.ValueNames", spec := "valueNames", inPlace := ["internal/abi.NoEscape", "internal/bytealg.MakeNoZero", "internal/bytealg.CountString", "internal/bytealg.IndexByteString", "internal/bytealg.IndexString"], unfollowed := true, recurses := true, named := ["sieve/link.never", "unicode/utf8.first", "unicode/utf8.acceptRanges", "internal/bytealg.MaxLen"], apart := false, laid := [("unicode/utf8.acceptRanges", laid_unicode_utf8_acceptRanges), ("sieve/link.never", laid_sieve_link_never), ("unicode/utf8.first", laid_unicode_utf8_first)] }
def ValueNamesSaid : Prop := valueNamesRow.holds Tryd.pinned (OpenSpec.ofChange valueNamesSpec)

/-- ITS FALSE NEIGHBOUR: 'it returns false'. Refute it at one input. -/
def valueNamesWrong : ChangeSpec := { name := "valueNames", fn := fun _ => fun
  | [] => { results := [.lit (.bool false)], args := [] }
  | _ => none }
def ValueNamesWrongFalsely : Prop := valueNamesRow.holds Tryd.pinned (OpenSpec.ofChange valueNamesWrong)

/-- 'sievelaw13.ValueWords': WHATEVER THE INPUT: true; the input reads as it did. -/
def valueWordsSpec : ChangeSpec := { name := "valueWords", fn := fun _ => fun
  | [d] => { results := [.lit (.bool true)], args := [d] }
  | _ => none }
def valueWordsRow : OpenClaim := { program := "ytjpnhaaneaikbaadoor", sum := "f8fb9c42f1b81ae8f4fd478474b72f1a0f1ef7236bdea47d8667d342fba5351c", func := "sieve/sievelaw13.ValueWords", spec := "valueWords", inPlace := ["internal/abi.NoEscape", "internal/bytealg.MakeNoZero", "internal/bytealg.CountString", "internal/bytealg.IndexByteString", "internal/bytealg.IndexString"], unfollowed := true, recurses := true, named := ["sieve/link.never", "unicode/utf8.first", "unicode/utf8.acceptRanges", "internal/bytealg.MaxLen"], apart := false, laid := [("unicode/utf8.acceptRanges", laid_unicode_utf8_acceptRanges), ("sieve/link.never", laid_sieve_link_never), ("unicode/utf8.first", laid_unicode_utf8_first)] }
def ValueWordsSaid : Prop := valueWordsRow.holds Tryd.pinned (OpenSpec.ofChange valueWordsSpec)

/-- ITS FALSE NEIGHBOUR: 'it returns false'. Refute it at one input. -/
def valueWordsWrong : ChangeSpec := { name := "valueWords", fn := fun _ => fun
  | [d] => { results := [.lit (.bool false)], args := [d] }
  | _ => none }
def ValueWordsWrongFalsely : Prop := valueWordsRow.holds Tryd.pinned (OpenSpec.ofChange valueWordsWrong)

/-- 'sievelaw13.ValueStays': WHATEVER THE INPUT: true; the input reads as it did. -/
def valueStaysSpec : ChangeSpec := { name := "valueStays", fn := fun _ => fun
  | [d1, d2, d3] => { results := [.lit (.bool true)], args := [d1, d2, d3] }
  | _ => none }
def valueStaysRow : OpenClaim := { program := "ytjpnhaaneaikbaadoor", sum := "f8fb9c42f1b81ae8f4fd478474b72f1a0f1ef7236bdea47d8667d342fba5351c", func := "sieve/sievelaw13.ValueStays", spec := "valueStays", inPlace := ["internal/abi.NoEscape", "internal/bytealg.MakeNoZero", "internal/bytealg.CountString", "internal/bytealg.IndexByteString", "internal/bytealg.IndexString"], unfollowed := true, recurses := true, named := ["sieve/link.never", "unicode/utf8.first", "unicode/utf8.acceptRanges", "internal/bytealg.MaxLen"], apart := false, laid := [("unicode/utf8.acceptRanges", laid_unicode_utf8_acceptRanges), ("sieve/link.never", laid_sieve_link_never), ("unicode/utf8.first", laid_unicode_utf8_first)] }
def ValueStaysSaid : Prop := valueStaysRow.holds Tryd.pinned (OpenSpec.ofChange valueStaysSpec)

/-- ITS FALSE NEIGHBOUR: 'it returns false'. Refute it at one input. -/
def valueStaysWrong : ChangeSpec := { name := "valueStays", fn := fun _ => fun
  | [d1, d2, d3] => { results := [.lit (.bool false)], args := [d1, d2, d3] }
  | _ => none }
def ValueStaysWrongFalsely : Prop := valueStaysRow.holds Tryd.pinned (OpenSpec.ofChange valueStaysWrong)

/-- 'sievelaw13.ValueYears': WHATEVER THE INPUT: true; the input reads as it did. -/
def valueYearsSpec : ChangeSpec := { name := "valueYears", fn := fun _ => fun
  | [d] => { results := [.lit (.bool true)], args := [d] }
  | _ => none }
def valueYearsRow : OpenClaim := { program := "ytjpnhaaneaikbaadoor", sum := "f8fb9c42f1b81ae8f4fd478474b72f1a0f1ef7236bdea47d8667d342fba5351c", func := "sieve/sievelaw13.ValueYears", spec := "valueYears", inPlace := ["internal/abi.NoEscape", "internal/bytealg.MakeNoZero", "internal/bytealg.CountString", "internal/bytealg.IndexByteString", "internal/bytealg.IndexString"], unfollowed := true, recurses := true, named := ["sieve/link.never", "unicode/utf8.first", "unicode/utf8.acceptRanges", "internal/bytealg.MaxLen"], apart := false, laid := [("unicode/utf8.acceptRanges", laid_unicode_utf8_acceptRanges), ("sieve/link.never", laid_sieve_link_never), ("unicode/utf8.first", laid_unicode_utf8_first)] }
def ValueYearsSaid : Prop := valueYearsRow.holds Tryd.pinned (OpenSpec.ofChange valueYearsSpec)

/-- ITS FALSE NEIGHBOUR: 'it returns false'. Refute it at one input. -/
def valueYearsWrong : ChangeSpec := { name := "valueYears", fn := fun _ => fun
  | [d] => { results := [.lit (.bool false)], args := [d] }
  | _ => none }
def ValueYearsWrongFalsely : Prop := valueYearsRow.holds Tryd.pinned (OpenSpec.ofChange valueYearsWrong)

/-- 'sievelaw13.ValueDays': WHATEVER THE INPUT: true; the input reads as it did. -/
def valueDaysSpec : ChangeSpec := { name := "valueDays", fn := fun _ => fun
  | [d] => { results := [.lit (.bool true)], args := [d] }
  | _ => none }
def valueDaysRow : OpenClaim := { program := "ytjpnhaaneaikbaadoor", sum := "f8fb9c42f1b81ae8f4fd478474b72f1a0f1ef7236bdea47d8667d342fba5351c", func := "sieve/sievelaw13.ValueDays", spec := "valueDays", inPlace := ["internal/abi.NoEscape", "internal/bytealg.MakeNoZero", "internal/bytealg.CountString", "internal/bytealg.IndexByteString", "internal/bytealg.IndexString"], unfollowed := true, recurses := true, named := ["sieve/link.never", "unicode/utf8.first", "unicode/utf8.acceptRanges", "internal/bytealg.MaxLen"], apart := false, laid := [("unicode/utf8.acceptRanges", laid_unicode_utf8_acceptRanges), ("sieve/link.never", laid_sieve_link_never), ("unicode/utf8.first", laid_unicode_utf8_first)] }
def ValueDaysSaid : Prop := valueDaysRow.holds Tryd.pinned (OpenSpec.ofChange valueDaysSpec)

/-- ITS FALSE NEIGHBOUR: 'it returns false'. Refute it at one input. -/
def valueDaysWrong : ChangeSpec := { name := "valueDays", fn := fun _ => fun
  | [d] => { results := [.lit (.bool false)], args := [d] }
  | _ => none }
def ValueDaysWrongFalsely : Prop := valueDaysRow.holds Tryd.pinned (OpenSpec.ofChange valueDaysWrong)

/- THE SECOND FORM. 'bulk': how many values and letters a reading holds, each counted each time it is reached (what is shared counts as often as it is met; a slice's spare places count too). A statement '..UptoSaid' is the law's where the arguments, and the package variables that the reading takes, are together of bulk at most 1048576: NARROWER than '..Said'. Prove '..Said' where nothing that the law and all that it calls make is longer than what came in: it says more and counts as full. Else prove '..UptoSaid'. A law counts once. -/
mutual
def uptoBulk {H : Type} : DataW H → Nat
  | .lit (.string bytes) => bytes.length + 1
  | .lit _ => 1
  | .nil => 1
  | .ptr d => uptoBulk d + 1
  | .slice elems spare => uptoBulkAll elems + uptoBulkAll spare + 1
  | .agg parts => uptoBulkAll parts + 1
  | .iface _ d => uptoBulk d + 1
  | .map entries => uptoBulkEntries entries + 1
  | .held _ => 1
def uptoBulkAll {H : Type} : List (DataW H) → Nat
  | [] => 0
  | d :: r => uptoBulk d + uptoBulkAll r
def uptoBulkEntries {H : Type} : List (Lit × DataW H) → Nat
  | [] => 0
  | x :: r => uptoBulkEntry x + uptoBulkEntries r
def uptoBulkEntry {H : Type} : Lit × DataW H → Nat
  | (.string bytes, d) => bytes.length + uptoBulk d + 1
  | (_, d) => uptoBulk d + 1
 end
def uptoSmall : (H : Type) → List (DataW H) → Bool := fun _ ds => decide (uptoBulkAll ds ≤ 1048576)
def OpenSpec.upto (s : _root_.Go.ChangeSpec) : _root_.Go.OpenSpec := { _root_.Go.OpenSpec.ofChange s with cond := some uptoSmall }

/-- 'sievelaw13.ValueNames', WHERE WHAT IT READS IS OF BULK AT MOST 1048576: true; the input reads as it did. -/
def valueNamesUptoRow : OpenClaim := { program := "ytjpnhaaneaikbaadoor", sum := "f8fb9c42f1b81ae8f4fd478474b72f1a0f1ef7236bdea47d8667d342fba5351c", func := "sieve/sievelaw13.ValueNames", spec := "valueNames", inPlace := ["internal/abi.NoEscape", "internal/bytealg.MakeNoZero", "internal/bytealg.CountString", "internal/bytealg.IndexByteString", "internal/bytealg.IndexString"], unfollowed := true, recurses := true, named := ["sieve/link.never", "unicode/utf8.first", "unicode/utf8.acceptRanges", "internal/bytealg.MaxLen"], apart := false, laid := [("unicode/utf8.acceptRanges", laid_unicode_utf8_acceptRanges), ("sieve/link.never", laid_sieve_link_never), ("unicode/utf8.first", laid_unicode_utf8_first)], narrowed := true }
def ValueNamesUptoSaid : Prop := valueNamesUptoRow.holds Tryd.pinned (OpenSpec.upto valueNamesSpec)

/-- 'sievelaw13.ValueWords', WHERE WHAT IT READS IS OF BULK AT MOST 1048576: true; the input reads as it did. -/
def valueWordsUptoRow : OpenClaim := { program := "ytjpnhaaneaikbaadoor", sum := "f8fb9c42f1b81ae8f4fd478474b72f1a0f1ef7236bdea47d8667d342fba5351c", func := "sieve/sievelaw13.ValueWords", spec := "valueWords", inPlace := ["internal/abi.NoEscape", "internal/bytealg.MakeNoZero", "internal/bytealg.CountString", "internal/bytealg.IndexByteString", "internal/bytealg.IndexString"], unfollowed := true, recurses := true, named := ["sieve/link.never", "unicode/utf8.first", "unicode/utf8.acceptRanges", "internal/bytealg.MaxLen"], apart := false, laid := [("unicode/utf8.acceptRanges", laid_unicode_utf8_acceptRanges), ("sieve/link.never", laid_sieve_link_never), ("unicode/utf8.first", laid_unicode_utf8_first)], narrowed := true }
def ValueWordsUptoSaid : Prop := valueWordsUptoRow.holds Tryd.pinned (OpenSpec.upto valueWordsSpec)

/-- 'sievelaw13.ValueStays', WHERE WHAT IT READS IS OF BULK AT MOST 1048576: true; the input reads as it did. -/
def valueStaysUptoRow : OpenClaim := { program := "ytjpnhaaneaikbaadoor", sum := "f8fb9c42f1b81ae8f4fd478474b72f1a0f1ef7236bdea47d8667d342fba5351c", func := "sieve/sievelaw13.ValueStays", spec := "valueStays", inPlace := ["internal/abi.NoEscape", "internal/bytealg.MakeNoZero", "internal/bytealg.CountString", "internal/bytealg.IndexByteString", "internal/bytealg.IndexString"], unfollowed := true, recurses := true, named := ["sieve/link.never", "unicode/utf8.first", "unicode/utf8.acceptRanges", "internal/bytealg.MaxLen"], apart := false, laid := [("unicode/utf8.acceptRanges", laid_unicode_utf8_acceptRanges), ("sieve/link.never", laid_sieve_link_never), ("unicode/utf8.first", laid_unicode_utf8_first)], narrowed := true }
def ValueStaysUptoSaid : Prop := valueStaysUptoRow.holds Tryd.pinned (OpenSpec.upto valueStaysSpec)

/-- 'sievelaw13.ValueYears', WHERE WHAT IT READS IS OF BULK AT MOST 1048576: true; the input reads as it did. -/
def valueYearsUptoRow : OpenClaim := { program := "ytjpnhaaneaikbaadoor", sum := "f8fb9c42f1b81ae8f4fd478474b72f1a0f1ef7236bdea47d8667d342fba5351c", func := "sieve/sievelaw13.ValueYears", spec := "valueYears", inPlace := ["internal/abi.NoEscape", "internal/bytealg.MakeNoZero", "internal/bytealg.CountString", "internal/bytealg.IndexByteString", "internal/bytealg.IndexString"], unfollowed := true, recurses := true, named := ["sieve/link.never", "unicode/utf8.first", "unicode/utf8.acceptRanges", "internal/bytealg.MaxLen"], apart := false, laid := [("unicode/utf8.acceptRanges", laid_unicode_utf8_acceptRanges), ("sieve/link.never", laid_sieve_link_never), ("unicode/utf8.first", laid_unicode_utf8_first)], narrowed := true }
def ValueYearsUptoSaid : Prop := valueYearsUptoRow.holds Tryd.pinned (OpenSpec.upto valueYearsSpec)

/-- 'sievelaw13.ValueDays', WHERE WHAT IT READS IS OF BULK AT MOST 1048576: true; the input reads as it did. -/
def valueDaysUptoRow : OpenClaim := { program := "ytjpnhaaneaikbaadoor", sum := "f8fb9c42f1b81ae8f4fd478474b72f1a0f1ef7236bdea47d8667d342fba5351c", func := "sieve/sievelaw13.ValueDays", spec := "valueDays", inPlace := ["internal/abi.NoEscape", "internal/bytealg.MakeNoZero", "internal/bytealg.CountString", "internal/bytealg.IndexByteString", "internal/bytealg.IndexString"], unfollowed := true, recurses := true, named := ["sieve/link.never", "unicode/utf8.first", "unicode/utf8.acceptRanges", "internal/bytealg.MaxLen"], apart := false, laid := [("unicode/utf8.acceptRanges", laid_unicode_utf8_acceptRanges), ("sieve/link.never", laid_sieve_link_never), ("unicode/utf8.first", laid_unicode_utf8_first)], narrowed := true }
def ValueDaysUptoSaid : Prop := valueDaysUptoRow.holds Tryd.pinned (OpenSpec.upto valueDaysSpec)

end Rows
end Go.Proofs.YtjpnhaaneaikbaaDoor
