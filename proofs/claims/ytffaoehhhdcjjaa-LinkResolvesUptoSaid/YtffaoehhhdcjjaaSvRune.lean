/-
  A rune's bytes: utf8.AppendRune, and the builder's WriteRune.
-/
import Derived.Test.YtffaoehhhdcjjaaSvStr
import Derived.Test.YtffaoehhhdcjjaaSvBs
set_option linter.unusedSimpArgs false
set_option linter.unusedVariables false
set_option linter.unnecessarySimpa false
namespace Go.Proofs.Ytffaoehhhdcjjaa
open Go Go.Sv Go.RowKit

/-- a rune's bytes -/
def encN (r : Nat) : List Nat :=
  if r < 128 then [r]
  else if r < 2048 then [192 + r / 64, 128 + r % 64]
  else if r < 65536 then [224 + r / 4096, 128 + r / 64 % 64, 128 + r % 64]
  else [240 + r / 262144, 128 + r / 4096 % 64, 128 + r / 64 % 64, 128 + r % 64]
def encR (r : Nat) : List UInt8 := (encN r).map UInt8.ofNat
theorem bs_ofNat {l : List Nat} (h : ∀ x ∈ l, x < 256) : bs (l.map UInt8.ofNat) = l.map fun n : Nat => byt n := by
  unfold bs
  rw [List.map_map]
  refine List.map_congr_left fun x hx => ?_
  have := h x hx
  simp only [Function.comp]
  rw [UInt8.toNat_ofNat_of_lt' (by simpa using this)]
theorem encN_lt (r : Nat) (h : r < 1114112) : ∀ x ∈ encN r, x < 256 := by
  unfold encN
  intro x hx
  repeat' split at hx
  all_goals simp only [List.mem_cons, List.not_mem_nil, or_false] at hx
  all_goals omega
theorem bs_encR (r : Nat) (h : r < 1114112) : bs (encR r) = (encN r).map fun n : Nat => byt n := bs_ofNat (encN_lt r h)
theorem encR_len (r : Nat) : (encR r).length = (encN r).length := by simp [encR]

theorem wr8 (n : Nat) : IntKind.u8.wrap (n : Int) = ((n % 256 : Nat) : Int) := by simp [IntKind.wrap, IntKind.signed, IntKind.bits]
theorem wr32 (n : Nat) (h : n < 4294967296) : IntKind.u32.wrap (n : Int) = (n : Int) := wrap_in (by simp [IntKind.min, IntKind.max, IntKind.signed, IntKind.bits]; omega)
theorem fd (r k : Nat) (hk : 0 < k) : (r : Int).fdiv (k : Int) = ((r / k : Nat) : Int) := by
  rw [Int.fdiv_eq_ediv_of_nonneg _ (by omega)]; rfl
theorem sh6 (r : Nat) : (r : Int).fdiv (2 ^ (min (6 : Int).toNat IntKind.i32.bits)) = ((r / 64 : Nat) : Int) := fd r 64 (by decide)
theorem sh12 (r : Nat) : (r : Int).fdiv (2 ^ (min (12 : Int).toNat IntKind.i32.bits)) = ((r / 4096 : Nat) : Int) := fd r 4096 (by decide)
theorem sh18 (r : Nat) : (r : Int).fdiv (2 ^ (min (18 : Int).toNat IntKind.i32.bits)) = ((r / 262144 : Nat) : Int) := fd r 262144 (by decide)
theorem msk (c : Nat) (hc : c < 256) : bitop .and .u8 (c : Int) 63 = ((c % 64 : Nat) : Int) := by revert hc; revert c; decide +kernel
theorem o128 (c : Nat) (hc : c < 64) : bitop .or .u8 128 (c : Int) = ((128 + c : Nat) : Int) := by revert hc; revert c; decide +kernel
theorem o192 (c : Nat) (hc : c < 32) : bitop .or .u8 192 (c : Int) = ((192 + c : Nat) : Int) := by revert hc; revert c; decide +kernel
theorem o224 (c : Nat) (hc : c < 16) : bitop .or .u8 224 (c : Int) = ((224 + c : Nat) : Int) := by revert hc; revert c; decide +kernel
theorem o240 (c : Nat) (hc : c < 8) : bitop .or .u8 240 (c : Int) = ((240 + c : Nat) : Int) := by revert hc; revert c; decide +kernel
theorem cont (n : Nat) : bitop .or .u8 128 (bitop .and .u8 (IntKind.u8.wrap (n : Int)) 63) = ((128 + n % 64 : Nat) : Int) := by
  rw [wr8, msk _ (by omega), o128 _ (by omega)]
  congr 2
  omega

/-- the row behind the append -/
def AppR (q : Option Addr) (s : List UInt8) (t : List UInt8) (w : World) (v : Value) (w' : World) : Prop :=
  ∃ q' c', v = .slice q' (s.length + t.length) c' ∧ w'.ownsRow 0 TY 1 (.slice q' (s.length + t.length) c') (s.length + t.length) (bs s ++ bs t) ∧ Lm (rb q) w (rb q') w'

theorem lm_frm {A B : List Nat} {w w1 w2 : World} (hf : Frm w w1) (h : Lm A w1 B w2) : Lm A w B w2 := ⟨hf.le.trans h.1, fun k hk hlt => h.2 k hk (Nat.lt_of_lt_of_le hlt hf.size)⟩










































































































































end Go.Proofs.Ytffaoehhhdcjjaa
