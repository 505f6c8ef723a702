/-
  What each operation yields, by its operands.
-/
import Derived.Test.YtffaoehhhdcjjaaSvCore
set_option linter.unusedSimpArgs false
set_option linter.unusedVariables false
set_option linter.unnecessarySimpa false
namespace Go.Sv
open Go Go.RowKit

/-! ## Types, as instances: a seat lays one for each of its types -/
class Und (P : Program) (t : TypeId) (d : outParam TypeDesc) : Prop where
  ok : P.underlying t = some d
class Inf (P : Program) (t : TypeId) (z : outParam Value) (size bytes : outParam Nat) : Prop where
  ok : (P.info? t).map (fun i => (i.zero, i.size, i.bytes)) = some (some z, size, bytes)

class Agg (P : Program) (t : TypeId) (b : outParam Bool) : Prop where
  ok : ∃ d, P.underlying t = some d ∧ (match d with | .struct _ | .array _ _ => true | _ => false) = b
class Fld (P : Program) (t : TypeId) (i : Nat) (off : outParam Nat) (ft : outParam TypeId) : Prop where
  ok : ∃ fs f, P.underlying t = some (.struct fs) ∧ fs[i]? = some f ∧ f.offset = off ∧ f.type = ft

/-- the places of a struct's fields: where they begin, how many cells they have -/
class Flds (P : Program) (t : TypeId) (l : outParam (List (Nat × Nat))) : Prop where
  ok : ∃ fs, P.underlying t = some (.struct fs) ∧ ∀ w, (fs.mapM fun f => do pure (f.offset, ← sizeOf f.type) : Sem (Array (Nat × Nat))).run P w = .ok l.toArray w

/-- a string by its bytes -/
abbrev str (l : List UInt8) : Value := .string ⟨l.toArray⟩
abbrev int (n : Int) : Value := .int .i64 n
abbrev i32 (n : Int) : Value := .int .i32 n
abbrev byt (n : Int) : Value := .int .u8 n

section
variable {P : Program} {σ : Env} {w : World} {d : Option Tmp} {ty t t' : TypeId} {pos : String} {af : Array Edge} {g : Option (Nat × Bool)} {x y z : Operand}

theorem y_move : Y P σ ⟨d, .move x, ty, pos, af, g⟩ w (evl σ x) w := Y.val rfl
theorem y_assign : Y P σ ⟨d, .assign x, ty, pos, af, g⟩ w (evl σ x) w := Y.val rfl

theorem y_cmp {op : BinOp} {k : IntKind} {a b : Int} {r : Value} (hx : evl σ x = .int k a) (hy : evl σ y = .int k b) (h : (Op.intCmp op a b).run P w = .ok r w) (ho : (match op with | .eql | .neq | .lss | .leq | .gtr | .geq => true | _ => false) = true) :
    Y P σ ⟨d, .binOp op t x y t', ty, pos, af, g⟩ w r w := by
  refine Y.val ?_
  simp only [execOp, hx, hy]
  cases op <;> simp_all [eqGuard, binOp]

variable {k : IntKind} {a b : Int}
theorem y_lss (hx : evl σ x = .int k a) (hy : evl σ y = .int k b) : Y P σ ⟨d, .binOp .lss t x y t', ty, pos, af, g⟩ w (.bool (decide (a < b))) w := y_cmp hx hy rfl rfl
theorem y_leq (hx : evl σ x = .int k a) (hy : evl σ y = .int k b) : Y P σ ⟨d, .binOp .leq t x y t', ty, pos, af, g⟩ w (.bool (decide (a ≤ b))) w := y_cmp hx hy rfl rfl
theorem y_gtr (hx : evl σ x = .int k a) (hy : evl σ y = .int k b) : Y P σ ⟨d, .binOp .gtr t x y t', ty, pos, af, g⟩ w (.bool (decide (b < a))) w := y_cmp hx hy rfl rfl
theorem y_geq (hx : evl σ x = .int k a) (hy : evl σ y = .int k b) : Y P σ ⟨d, .binOp .geq t x y t', ty, pos, af, g⟩ w (.bool (decide (b ≤ a))) w := y_cmp hx hy rfl rfl
theorem y_eql (hx : evl σ x = .int k a) (hy : evl σ y = .int k b) : Y P σ ⟨d, .binOp .eql t x y t', ty, pos, af, g⟩ w (.bool (decide (a = b))) w := y_cmp hx hy (by simp only [Op.intCmp, Sem.run_pure]; congr 2) rfl
theorem y_neq (hx : evl σ x = .int k a) (hy : evl σ y = .int k b) : Y P σ ⟨d, .binOp .neq t x y t', ty, pos, af, g⟩ w (.bool (decide (a ≠ b))) w := y_cmp hx hy (by simp only [Op.intCmp, Sem.run_pure, bne]; congr 2; simp; rfl) rfl

theorem wrap_in {n : Int} (h : k.min ≤ n ∧ n ≤ k.max) : k.wrap n = n := by
  cases k <;> simp [IntKind.wrap, IntKind.min, IntKind.max, IntKind.signed, IntKind.bits] at * <;> omega

theorem y_add (hx : evl σ x = .int k a) (hy : evl σ y = .int k b) (h : k.min ≤ a + b ∧ a + b ≤ k.max) : Y P σ ⟨d, .binOp .add t x y t', ty, pos, af, g⟩ w (.int k (a + b)) w := by
  refine Y.val ?_; simp only [execOp, hx, hy]; simp [eqGuard, binOp, Op.intArith, wrap_in h]
theorem y_sub (hx : evl σ x = .int k a) (hy : evl σ y = .int k b) (h : k.min ≤ a - b ∧ a - b ≤ k.max) : Y P σ ⟨d, .binOp .sub t x y t', ty, pos, af, g⟩ w (.int k (a - b)) w := by
  refine Y.val ?_; simp only [execOp, hx, hy]; simp [eqGuard, binOp, Op.intArith, wrap_in h]
theorem y_mul (hx : evl σ x = .int k a) (hy : evl σ y = .int k b) (h : k.min ≤ a * b ∧ a * b ≤ k.max) : Y P σ ⟨d, .binOp .mul t x y t', ty, pos, af, g⟩ w (.int k (a * b)) w := by
  refine Y.val ?_; simp only [execOp, hx, hy]; simp [eqGuard, binOp, Op.intArith, wrap_in h]
theorem y_addw (hx : evl σ x = .int k a) (hy : evl σ y = .int k b) : Y P σ ⟨d, .binOp .add t x y t', ty, pos, af, g⟩ w (.int k (k.wrap (a + b))) w := by
  refine Y.val ?_; simp only [execOp, hx, hy]; simp [eqGuard, binOp, Op.intArith]
theorem y_subw (hx : evl σ x = .int k a) (hy : evl σ y = .int k b) : Y P σ ⟨d, .binOp .sub t x y t', ty, pos, af, g⟩ w (.int k (k.wrap (a - b))) w := by
  refine Y.val ?_; simp only [execOp, hx, hy]; simp [eqGuard, binOp, Op.intArith]
theorem y_mulw (hx : evl σ x = .int k a) (hy : evl σ y = .int k b) : Y P σ ⟨d, .binOp .mul t x y t', ty, pos, af, g⟩ w (.int k (k.wrap (a * b))) w := by
  refine Y.val ?_; simp only [execOp, hx, hy]; simp [eqGuard, binOp, Op.intArith]
def bitop (op : BinOp) (k : IntKind) (a b : Int) : Int :=
  let x := BitVec.ofInt k.bits a
  let y := BitVec.ofInt k.bits b
  match op with
  | .and => k.wrap (x &&& y).toNat
  | .or => k.wrap (x ||| y).toNat
  | .xor => k.wrap (x ^^^ y).toNat
  | _ => k.wrap (x &&& ~~~y).toNat
theorem y_and (hx : evl σ x = .int k a) (hy : evl σ y = .int k b) : Y P σ ⟨d, .binOp .and t x y t', ty, pos, af, g⟩ w (.int k (bitop .and k a b)) w := by
  refine Y.val ?_; simp only [execOp, hx, hy]; simp [eqGuard, binOp, Op.intBits, bitop]
theorem y_or (hx : evl σ x = .int k a) (hy : evl σ y = .int k b) : Y P σ ⟨d, .binOp .or t x y t', ty, pos, af, g⟩ w (.int k (bitop .or k a b)) w := by
  refine Y.val ?_; simp only [execOp, hx, hy]; simp [eqGuard, binOp, Op.intBits, bitop]
theorem y_xor (hx : evl σ x = .int k a) (hy : evl σ y = .int k b) : Y P σ ⟨d, .binOp .xor t x y t', ty, pos, af, g⟩ w (.int k (bitop .xor k a b)) w := by
  refine Y.val ?_; simp only [execOp, hx, hy]; simp [eqGuard, binOp, Op.intBits, bitop]
theorem y_quo (hx : evl σ x = .int k a) (hy : evl σ y = .int k b) (h : 0 ≤ a ∧ 0 < b ∧ a ≤ k.max) : Y P σ ⟨d, .binOp .quo t x y t', ty, pos, af, g⟩ w (.int k (a / b)) w := by
  refine Y.val ?_; simp only [execOp, hx, hy]
  have hb : ¬ b = 0 := by omega
  have e : a.tdiv b = a / b := Int.tdiv_eq_ediv_of_nonneg h.1
  have h1 : 0 ≤ a / b := Int.ediv_nonneg h.1 (by omega)
  have h2 : a / b ≤ a := Int.ediv_le_self _ h.1
  have hm : k.min ≤ 0 := by cases k <;> decide
  simp [eqGuard, binOp, Op.intDiv, hb, e, wrap_in (k := k) (n := a / b) ⟨by omega, by omega⟩]
theorem y_rem (hx : evl σ x = .int k a) (hy : evl σ y = .int k b) (h : 0 ≤ a ∧ 0 < b) : Y P σ ⟨d, .binOp .rem t x y t', ty, pos, af, g⟩ w (.int k (a % b)) w := by
  refine Y.val ?_; simp only [execOp, hx, hy]
  have hb : ¬ b = 0 := by omega
  have e : a.tmod b = a % b := Int.tmod_eq_emod_of_nonneg h.1
  simp [eqGuard, binOp, Op.intDiv, hb, e]
theorem y_remt (hx : evl σ x = .int k a) (hy : evl σ y = .int k b) (h : b ≠ 0) : Y P σ ⟨d, .binOp .rem t x y t', ty, pos, af, g⟩ w (.int k (a.tmod b)) w := by
  refine Y.val ?_; simp only [execOp, hx, hy]
  simp [eqGuard, binOp, Op.intDiv, h]
variable {k' : IntKind}
theorem y_shl (hx : evl σ x = .int k a) (hy : evl σ y = .int k' b) (h : 0 ≤ b) : Y P σ ⟨d, .binOp .shl t x y t', ty, pos, af, g⟩ w (.int k (k.wrap (a * 2 ^ (min b.toNat k.bits)))) w := by
  refine Y.val ?_; simp only [execOp, hx, hy]
  have hb : ¬ b < 0 := by omega
  simp [eqGuard, binOp, Op.shift, hb]
theorem y_shr (hx : evl σ x = .int k a) (hy : evl σ y = .int k' b) (h : 0 ≤ b) : Y P σ ⟨d, .binOp .shr t x y t', ty, pos, af, g⟩ w (.int k (a.fdiv (2 ^ (min b.toNat k.bits)))) w := by
  refine Y.val ?_; simp only [execOp, hx, hy]
  have hb : ¬ b < 0 := by omega
  simp [eqGuard, binOp, Op.shift, hb]

theorem y_not {c : Bool} (hx : evl σ x = .bool c) : Y P σ ⟨d, .unOp .not t x, ty, pos, af, g⟩ w (.bool (!c)) w := by
  refine Y.val ?_; simp only [execOp, hx]; simp [Op.unary]
theorem y_neg (hx : evl σ x = .int k a) : Y P σ ⟨d, .unOp .neg t x, ty, pos, af, g⟩ w (.int k (k.wrap (0 - a))) w := by
  refine Y.val ?_; simp only [execOp, hx]; simp [Op.unary, Op.intArith]

/-! picks -/
theorem y_pick {c : Bool} {v : Value} (hx : evl σ x = .bool c) (h : (if c then evl σ y else evl σ z) = v) : Y P σ ⟨d, .pick x y z, ty, pos, af, g⟩ w v w := by
  refine Y.val ?_; simp only [execOp, hx]; subst h; cases c <;> simp [asBool]
theorem y_extract {vs : Array Value} {i : Nat} {v : Value} (hx : evl σ x = .tuple vs) (hv : vs[i]? = some v) : Y P σ ⟨d, .extract x i, ty, pos, af, g⟩ w v w := by
  refine Y.val ?_; simp only [execOp, hx]; simp [Instr.extract, hv]

/-! strings -/
theorem lbeq (l l' : List UInt8) : (l == l') = decide (l = l') := by by_cases e : l = l' <;> simp [e]
theorem size_str (l : List UInt8) : (ByteArray.mk l.toArray).size = l.length := by simp [ByteArray.size]
variable {l l' : List UInt8}
theorem y_seql (hx : evl σ x = str l) (hy : evl σ y = str l') : Y P σ ⟨d, .binOp .eql t x y t', ty, pos, af, g⟩ w (.bool (decide (l = l'))) w := by
  refine Y.val ?_; simp only [execOp, hx, hy]; simp [eqGuard, binOp, Op.stringOp, lbeq]
theorem y_sneq (hx : evl σ x = str l) (hy : evl σ y = str l') : Y P σ ⟨d, .binOp .neq t x y t', ty, pos, af, g⟩ w (.bool (decide (l ≠ l'))) w := by
  refine Y.val ?_; simp only [execOp, hx, hy]; simp [eqGuard, binOp, Op.stringOp, lbeq]
theorem y_sadd (hx : evl σ x = str l) (hy : evl σ y = str l') (h : l.length + l'.length ≤ 9223372036854775807) : Y P σ ⟨d, .binOp .add t x y t', ty, pos, af, g⟩ w (str (l ++ l')) w := by
  refine Y.val ?_; simp only [execOp, hx, hy]
  have h' : ¬ (((ByteArray.mk l.toArray).size + (ByteArray.mk l'.toArray).size : Nat) : Int) > IntKind.i64.max := by
    simp only [ByteArray.size, List.size_toArray, IntKind.max, IntKind.signed, IntKind.bits]
    simp; omega
  simp only [eqGuard, binOp, Op.stringOp, h', if_false]
  simp
  rfl
theorem y_slen [hu : Und P t .string] {ats : Array TypeId} (hx : evl σ x = str l) (hat : ats = #[t]) : Y P σ ⟨d, .call ⟨.builtin .len, #[x], ats⟩, ty, pos, af, g⟩ w (int l.length) w := by
  subst hat
  refine Y.val ?_; simp only [execOp, resolve, Sem.run_bind, Sem.run_pure, Result.andThen_ok, invoke, builtin]
  simp [hx, run_len_string w t ty ⟨l.toArray⟩ hu.ok, size_str, goInt]
theorem y_len [hu : Und P t (.slice t')] {ats : Array TypeId} {p : Option Addr} {m c : Nat} (hx : evl σ x = .slice p m c) (hat : ats = #[t]) : Y P σ ⟨d, .call ⟨.builtin .len, #[x], ats⟩, ty, pos, af, g⟩ w (int m) w := by
  subst hat
  refine Y.val ?_; simp only [execOp, resolve, Sem.run_bind, Sem.run_pure, Result.andThen_ok, invoke, builtin]
  simp [hx, Builtin.len_, underlying, hu.ok, goInt]
theorem y_sindex [hu : Und P t .string] {i : Nat} {c : UInt8} (hx : evl σ x = str l) (hy : evl σ y = .int k i) (hc : l[i]? = some c) : Y P σ ⟨d, .index t x y, ty, pos, af, g⟩ w (byt c.toNat) w := by
  refine Y.val ?_; simp only [execOp, hx, hy]
  have hlt : i < l.length := by
    rcases Nat.lt_or_ge i l.length with h | h
    · exact h
    · rw [List.getElem?_eq_none h] at hc; cases hc
  have e : (ByteArray.mk l.toArray)[i]? = some c := by
    rw [ByteArray.getElem?_lt' _ _ (by simpa [ByteArray.size] using hlt)]
    rw [List.getElem?_eq_getElem hlt] at hc
    have hc' : l[i] = c := by simpa using hc
    rw [← hc']; rfl
  simp [Instr.index, asIntOf, underlying, hu.ok, e]
theorem extract_str (l : List UInt8) (a b : Nat) : (ByteArray.mk l.toArray).extract a b = ByteArray.mk ((l.drop a).take (b - a)).toArray := ByteArray.extract_mk l a b
theorem y_sslice [hu : Und P t .string] {i j : Nat} {y' z' : Operand} (hx : evl σ x = str l) (hy : evl σ y' = .int k i) (hz : evl σ z' = .int k' j) (h : i ≤ j ∧ j ≤ l.length) :
    Y P σ ⟨d, .slice t x (some y') (some z') none, ty, pos, af, g⟩ w (str ((l.drop i).take (j - i))) w := by
  refine Y.val ?_; simp only [execOp, hx, Option.map, hy, hz]
  have h1 : (0:Int) ≤ i ∧ (i:Int) ≤ (j:Nat) := by omega
  have h2 : (0:Int) ≤ j ∧ (j:Int) ≤ ((ByteArray.mk l.toArray).size : Nat) := by simp [ByteArray.size]; omega
  simp only [Instr.sliceAt, Sem.run_bind, underlying, run_program, Result.andThen_ok, hu.ok, Sem.run_pure, Instr.slice, Instr.sliceBounds, Instr.sliceBound, asIntOf, Option.isSome]
  have h3 : i ≤ j := h.1
  have h4 : j ≤ l.length := h.2
  simp [h1, h2, h3, h4, extract_str, size_str]
theorem y_sslice_to [hu : Und P t .string] {j : Nat} {z' : Operand} (hx : evl σ x = str l) (hz : evl σ z' = .int k' j) (h : j ≤ l.length) :
    Y P σ ⟨d, .slice t x none (some z') none, ty, pos, af, g⟩ w (str (l.take j)) w := by
  refine Y.val ?_; simp only [execOp, hx, Option.map, hz]
  have h2 : (0:Int) ≤ j ∧ (j:Int) ≤ ((ByteArray.mk l.toArray).size : Nat) := by simp [ByteArray.size]; omega
  simp only [Instr.sliceAt, Sem.run_bind, underlying, run_program, Result.andThen_ok, hu.ok, Sem.run_pure, Instr.slice, Instr.sliceBounds, Instr.sliceBound, asIntOf, Option.isSome]
  simp [h2, h, extract_str, size_str]
theorem y_sslice_from [hu : Und P t .string] {i : Nat} {y' : Operand} (hx : evl σ x = str l) (hy : evl σ y' = .int k i) (h : i ≤ l.length) :
    Y P σ ⟨d, .slice t x (some y') none none, ty, pos, af, g⟩ w (str (l.drop i)) w := by
  refine Y.val ?_; simp only [execOp, hx, Option.map, hy]
  have h2 : (0:Int) ≤ i ∧ (i:Int) ≤ ((ByteArray.mk l.toArray).size : Nat) := by simp [ByteArray.size]; omega
  simp only [Instr.sliceAt, Sem.run_bind, underlying, run_program, Result.andThen_ok, hu.ok, Sem.run_pure, Instr.slice, Instr.sliceBounds, Instr.sliceBound, asIntOf, Option.isSome]
  simp [h2, h, extract_str, size_str, List.take_of_length_le]

/-! conversions of numbers -/
theorem y_conv [hu : Und P t (.int k')] [hu' : Und P t' (.int k)] (hx : evl σ x = .int k' a) : Y P σ ⟨d, .convert t t' x, ty, pos, af, g⟩ w (.int k (k.wrap a)) w := by
  refine Y.val ?_; simp only [execOp, hx]; simp [convert, underlying, hu.ok, hu'.ok, Conv.intToInt]
theorem y_conv_in [hu : Und P t (.int k')] [hu' : Und P t' (.int k)] (hx : evl σ x = .int k' a) (h : k.min ≤ a ∧ a ≤ k.max) : Y P σ ⟨d, .convert t t' x, ty, pos, af, g⟩ w (.int k a) w := by
  have := y_conv (P := P) (σ := σ) (w := w) (d := d) (ty := ty) (pos := pos) (af := af) (g := g) (t := t) (t' := t') (k := k) hx
  rwa [wrap_in h] at this
theorem y_conv_str [hu : Und P t .string] [hu' : Und P t' .string] {s : ByteArray} (hx : evl σ x = .string s) : Y P σ ⟨d, .convert t t' x, ty, pos, af, g⟩ w (.string s) w := by
  refine Y.val ?_; simp only [execOp, hx]; simp [convert, underlying, hu.ok, hu'.ok]
theorem y_nilcheck {p : Addr} (hx : evl σ x = .pointer (some p)) : Y P σ ⟨d, .nilCheck x, ty, pos, af, g⟩ w (.pointer (some p)) w := by
  refine Y.val ?_; simp only [execOp, hx]; rfl
theorem y_makefunc {fn : Fn} {first captured : Array Operand} : Y P σ ⟨d, .makeFunc fn first captured, ty, pos, af, g⟩ w (.func fn (first.map (evl σ)) (captured.map (evl σ))) w := Y.val rfl
theorem y_makefuncL {fn : Fn} {first captured : List Operand} : Y P σ ⟨d, .makeFunc fn first.toArray captured.toArray, ty, pos, af, g⟩ w (.func fn ⟨first.map (evl σ)⟩ ⟨captured.map (evl σ)⟩) w := by
  have h := y_makefunc (P := P) (σ := σ) (d := d) (ty := ty) (pos := pos) (af := af) (g := g) (w := w) (fn := fn) (first := first.toArray) (captured := captured.toArray)
  rw [List.map_toArray, List.map_toArray] at h
  exact h
end

/-- what 'ev1' says is so -/
theorem cmpV_ok {P : Program} {σ : Env} {w : World} {d : Option Tmp} {ty t t' : TypeId} {pos : String} {af : Array Edge} {g : Option (Nat × Bool)} {x y : Operand} {op : BinOp} {v u r : Value}
    (h : cmpV op v u = some r) (hx : evl σ x = v) (hy : evl σ y = u) : Y P σ ⟨d, .binOp op t x y t', ty, pos, af, g⟩ w r w := by
  unfold cmpV at h
  split at h
  iterate 6
    · rename_i k a k' b
      cases hk : kEq k k' <;> simp only [hk] at h
      · cases h
      · obtain rfl := kEq_eq hk
        obtain rfl := Option.some.inj h
        first | exact y_lss hx hy | exact y_leq hx hy | exact y_gtr hx hy | exact y_geq hx hy | exact y_eql hx hy | exact y_neq hx hy
  · obtain rfl := Option.some.inj h; exact y_seql hx hy
  · obtain rfl := Option.some.inj h; exact y_sneq hx hy
  · cases h

theorem ev1_ok {P : Program} {σ : GE} {w : World} {d : Option Tmp} {ty : TypeId} {pos : String} {af : Array Edge} {g : Option (Nat × Bool)} {op : Op} {v : Value} {nd : Bool}
    (h : ev1 σ op = some ⟨v, nd⟩) (hn : nd = true) : Y P (real σ) ⟨d, op, ty, pos, af, g⟩ w v w := by
  subst hn
  cases op <;> try (simp only [ev1] at h; cases h; done)
  case move x =>
    simp only [ev1, Option.some.injEq] at h
    have := y_move (P := P) (σ := real σ) (w := w) (d := d) (ty := ty) (pos := pos) (af := af) (g := g) (x := x)
    rwa [evr h rfl] at this
  case assign x =>
    simp only [ev1, Option.some.injEq] at h
    have := y_assign (P := P) (σ := real σ) (w := w) (d := d) (ty := ty) (pos := pos) (af := af) (g := g) (x := x)
    rwa [evr h rfl] at this
  case pick c a b =>
    simp only [ev1] at h
    split at h
    · rename_i c' gc a' ga b' gb hc ha hb
      simp only [Option.some.injEq, GV.mk.injEq, Bool.and_eq_true] at h
      obtain ⟨rfl, hgc, hp⟩ := h
      refine y_pick (evr hc hgc) ?_
      cases c'
      · simp only [pkb, cond_false] at hp ⊢; simpa using evr hb hp
      · simp only [pkb, cond_true] at hp ⊢; simpa using evr ha hp
    · cases h
  case binOp op t x y t' =>
    simp only [ev1] at h
    split at h
    · rename_i r hr
      simp only [Option.some.injEq, GV.mk.injEq, Bool.and_eq_true] at h
      obtain ⟨rfl, hx, hy⟩ := h
      exact cmpV_ok hr (evl_real σ x hx) (evl_real σ y hy)
    · cases h
  case unOp op t x =>
    cases op <;> simp only [ev1] at h <;> try (cases h; done)
    split at h
    · rename_i hx
      simp only [Option.some.injEq, GV.mk.injEq] at h
      obtain ⟨rfl, hg⟩ := h
      exact y_not (evr hx hg)
    · cases h
  case extract x i =>
    simp only [ev1] at h
    split at h
    · rename_i hx
      split at h
      · rename_i hv
        simp only [Option.some.injEq, GV.mk.injEq] at h
        obtain ⟨rfl, hg⟩ := h
        exact y_extract (evr hx hg) (by simpa using hv)
      · cases h
    · cases h
theorem and_l {b c : Bool} (h : (b && c) = true) : b = true := by cases b <;> simp_all
theorem and_r {b c : Bool} (h : (b && c) = true) : c = true := by cases b <;> simp_all
end Go.Sv
