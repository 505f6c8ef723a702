/-
  Our texts SvLn, SvIn, SvInL, SvInN, SvEvC, SvEvN, SvJmp, SvRwC, SvRwD, SvRwE, SvRwF, SvRf, SvTabF, SvKp, SvRwG, SvInM, SvGen, SvEvW, SvLkE, SvEvX, SvEvY, SvEq, SvTabE, SvEvE, SvEvO, SvEvP, SvEvU, SvEvV, SvEcA, SvGb, SvRwH, joined.
-/
import Derived.Test.YtkclldfejembnaaDoorMg3
import Derived.Lib.LaidTab
import Derived.ScopeJumps
import Derived.Laws.StructEq
import Derived.Test.YtkclldfejembnaaDoorRows
/-
  Slices written out of elements of many cells; regions that draw their order, by an invariant of the whole state.
-/
set_option linter.unusedSimpArgs false
set_option linter.unusedVariables false
set_option linter.unnecessarySimpa false
namespace Go.Sv
open Go Go.RowKit
section
variable {P : Program} {n : Nat} {ds : Ctx} {ops : Array Oper} {Q : Exit → Ctx → Env → World → Prop} {rest : List Oper} {σ : GE} {w : World} {d : Nat} {ty t t' e : TypeId} {pos : String} {af : Array Edge} {x : Operand} {zv : Value} {size bytes : Nat}
end

/-! ## Regions that draw their order, by an invariant -/
def fwdB (ops : Array Oper) : Bool := (List.range ops.size).all fun j => match ops[j]? with
  | some o => o.after.all fun e => !Region.binds .any e || decide (e.on < j)
  | none => true
theorem ready_of_fwd {ops : Array Oper} (hf : fwdB ops = true) {listed : Array Bool} (hsz : listed.size = ops.size) (hr : Region.ready .any ops listed = []) : ∀ k, k < ops.size → fl listed k = true := by
  intro k
  induction k using Nat.strongRecOn with
  | _ k ih =>
    intro hk
    cases hL : fl listed k with
    | true => rfl
    | false =>
      exfalso
      have hmem : k ∈ Region.ready .any ops listed := by
        refine mem_ready.2 ⟨?_, ops[k], by simp [hk], ?_⟩
        · simp only [fl, Array.getD_eq_getD_getElem?, show k < listed.size from by omega, Array.getElem?_eq_getElem, Option.getD_some] at hL ⊢
          exact hL
        · intro e he hb
          simp only [fwdB, List.all_eq_true, List.mem_range] at hf
          have h1 := hf k hk
          simp only [hk, Array.getElem?_eq_getElem] at h1
          have h2 := Array.all_eq_true_iff_forall_mem.1 h1 e he
          simp only [hb, Bool.not_true, Bool.false_or, decide_eq_true_eq] at h2
          exact ih e.on h2 (by omega)
      rw [hr] at hmem
      cases hmem
/-- what comes of an operation, whatever it yields -/
def comes (P : Program) (T : Value → World → Prop) : Result Next → Prop
  | .ok (.value u) w' => T u w'
  | .ok .skip w' => T undef w'
  | .ok (.enter f args) w' => Calls P f args w' (fun e w'' => ∃ v, e = .returned v ∧ T v w'')
  | _ => False
def StepI (P : Program) (ops : Array Oper) (S : (Nat → Bool) → Env → World → Prop) (k : Nat) (o : Oper) : Prop := ∀ L σ w, Up ops o k L → S L σ w →
  (Region.wanted o (yl ops σ) = true ∧ comes P (fun v w' => S (on L k) (updO σ o.dst v) w') ((execOp (evl σ) o).run P w)) ∨ (Region.wanted o (yl ops σ) = false ∧ S (on L k) (updO σ o.dst undef) w)
def StepsI (P : Program) (ops : Array Oper) (S : (Nat → Bool) → Env → World → Prop) : Nat → List Oper → Prop
  | _, [] => True
  | k, o :: l => StepI P ops S k o ∧ StepsI P ops S (k + 1) l
theorem stepsI_get {P : Program} {ops : Array Oper} {S : (Nat → Bool) → Env → World → Prop} : ∀ {l : List Oper} {k : Nat}, StepsI P ops S k l → ∀ j o, l[j]? = some o → StepI P ops S (k + j) o
  | [], _, _, j, o, h => by simp at h
  | x :: l, k, hs, 0, o, h => by simp only [List.getElem?_cons_zero, Option.some.injEq] at h; subst h; exact hs.1
  | x :: l, k, hs, j + 1, o, h => by
    have := stepsI_get hs.2 j o (by simpa using h)
    rwa [show k + 1 + j = k + (j + 1) from by omega] at this
section
variable {P : Program} {n : Nat} {ds : Ctx} {Q : Exit → Ctx → Env → World → Prop} {S : (Nat → Bool) → Env → World → Prop} {σ : Env} {w : World}
theorem comes_of_Y {o : Oper} {v : Value} {w w' : World} {T : Value → World → Prop} (hy : Y P σ o w v w') (hT : T v w') : comes P T ((execOp (evl σ) o).run P w) := by
  unfold Y at hy
  rcases hy with hy | ⟨hy, rfl⟩
  · rw [hy]; exact hT
  · rw [hy]; exact hT
end
end Go.Sv

/-
  Packages names and sieveref04: which names are in the set of void elements; texts parted by blanks.
-/
set_option linter.unusedSimpArgs false
set_option linter.unusedVariables false
set_option linter.unnecessarySimpa false
namespace Go.Proofs.YtkclldfejembnaaDoor
open Go Go.Sv Go.RowKit

def strs (l : List (List UInt8)) : List Value := l.map fun s => str s
theorem strs_len (l : List (List UInt8)) : (strs l).length = l.length := by simp [strs]
theorem strs_at {l : List (List UInt8)} {i : Nat} {x : List UInt8} (h : l[i]? = some x) : (strs l)[i]? = some (str x) := by simp [strs, h]
theorem strs_get {l : List (List UInt8)} {i : Nat} (h : i < l.length) : (strs l)[i]? = some (str l[i]) := by simp [strs, h]
/-- the table of blanks holds what its initialiser lays -/
def Asc (w : World) : Prop := Lib.TabIs Tryd.prog w "strings.asciiSpace" .u8 Lib.asciiSpaceTab
theorem gAsc : Tryd.prog.globalNamed "strings.asciiSpace" = some 0 := by kernel_rfl
theorem Asc.frm {w w' : World} (h : Asc w) (hf : Frm w w') : Asc w' := by
  unfold Asc Lib.TabIs World.var? at h ⊢
  rw [gAsc] at h ⊢
  simp only [Option.bind_some] at h ⊢
  have hlt : 0 < w.heap.size := by
    rcases Nat.lt_or_ge 0 w.heap.size with h' | h'
    · exact h'
    · rw [Array.getElem?_eq_none h'] at h; cases h
  rw [hf.block _ hlt]
  exact h

/-! ## sieveref04: Fields -/
def blkR (c : UInt8) : Bool := decide (c = 9 ∨ c = 10 ∨ c = 12 ∨ c = 32)
def fgo : List UInt8 → List UInt8 → List (List UInt8)
  | cur, [] => if cur = [] then [] else [cur]
  | cur, b :: l => if blkR b then (if cur = [] then fgo [] l else cur :: fgo [] l) else fgo (cur ++ [b]) l
def fieldsR (s : List UInt8) : List (List UInt8) := fgo [] s

















/-! ## the sets -/
def voidL : List (List UInt8) := fieldsR [97, 114, 101, 97, 32, 98, 97, 115, 101, 32, 98, 114, 32, 99, 111, 108, 32, 101, 109, 98, 101, 100, 32, 104, 114, 32, 105, 109, 103, 32, 105, 110, 112, 117, 116, 32, 108, 105, 110, 107, 32, 109, 101, 116, 97, 32, 115, 111, 117, 114, 99, 101, 32, 116, 114, 97, 99, 107, 32, 119, 98, 114]
def voidT : List UInt8 := [97, 114, 101, 97, 32, 98, 97, 115, 101, 32, 98, 114, 32, 99, 111, 108, 32, 101, 109, 98, 101, 100, 32, 104, 114, 32, 105, 109, 103, 32, 105, 110, 112, 117, 116, 32, 108, 105, 110, 107, 32, 109, 101, 116, 97, 32, 115, 111, 117, 114, 99, 101, 32, 116, 114, 97, 99, 107, 32, 119, 98, 114]
/-- is a name a void element's? -/
def voidR (n : List UInt8) : Bool := decide (n ∈ voidL)
theorem isSet_ok (k : Nat) (hk : k < 16) (w : World) : PureC Tryd.prog 25 #[int k] w (.bool true) := by
  refine enter (l := [int k]) Tryd.func25 rfl Tryd.ntmps25 (by kernel_rfl) rfl ?_
  refine sgo ?_
  (first | refine fp1 (.inl rfl) rfl rfl ?_ | refine fp2 (.inl rfl) rfl rfl rfl ?_ | refine fp3 (.inl rfl) rfl rfl rfl rfl ?_ | refine fp0 (.inr rfl) rfl ?_ | refine fp0 (.inl rfl) rfl ?_ | refine fp1 (.inr rfl) rfl rfl ?_); refine ⟨?_, by (first | exact Frm.refl _ | assumption | exact Go.Sv.Sep.frm (by assumption) | (refine Frm.trans ?_ (by assumption); first | exact Frm.refl _ | assumption))⟩; (try simp only [realB, rv_true, Nat.reduceBEq, cond_true, cond_false, entG, real_lif, updGL])
  congr 1
  simp only [pkb_and, Bool.and_eq_true, decide_eq_true_eq]
  omega
end Go.Proofs.YtkclldfejembnaaDoor

/-
  Package names: the sets' names.
-/
set_option linter.unusedSimpArgs false
set_option linter.unusedVariables false
set_option linter.unnecessarySimpa false
namespace Go.Proofs.YtkclldfejembnaaDoor
open Go Go.Sv Go.RowKit
end Go.Proofs.YtkclldfejembnaaDoor

/-
  Packages names and sieveref04: In, of the void elements.
-/
set_option linter.unusedSimpArgs false
set_option linter.unusedVariables false
set_option linter.unnecessarySimpa false
namespace Go.Proofs.YtkclldfejembnaaDoor
open Go Go.Sv Go.RowKit

/-- strings.Fields, of ASCII -/
theorem strFields_ok (s : List UInt8) (hb : s.length ≤ 1048576) (ha : s.all (fun c => decide (c.toNat < 128)) = true) (w : World) (hA : Asc w) :
    CallsR Tryd.prog 26 #[str s] w fun v w' => ∃ b, v = .slice (pb b) (Lib.fields s).length (Lib.fields s).length ∧ Sep w w' [pOwn b (strs (Lib.fields s))] := by
  refine Calls.mono (Tryd.strings_Fields ⟨s.toArray⟩ w (by rw [ByteArray.size]; simp; omega) (fun j b hb => ?_) hA) ?_
  · have hm := List.mem_of_getElem? hb
    have := List.all_eq_true.1 ha b (by simpa using hm)
    simpa using this
  · rintro e w' ⟨rfl, rfl⟩
    refine ⟨_, rfl, w.heap.size, rfl, ?_⟩
    refine (Sep.start w).push (frm_alloc w _) (own_alloc w _ _) (by simp [pOwn])
theorem mem_at {α : Type} {l : List α} {x : α} (h : ∀ i : Nat, (hi : i < l.length) → l[i] ≠ x) : x ∉ l := by
  intro hm
  obtain ⟨i, hi, e⟩ := List.mem_iff_getElem.1 hm
  exact h i hi e
end Go.Proofs.YtkclldfejembnaaDoor

/-
  Packages event and sieveref18: which events may be.
-/
set_option linter.unusedSimpArgs false
set_option linter.unusedVariables false
set_option linter.unnecessarySimpa false
namespace Go.Sv
open Go Go.RowKit
section
variable {P : Program} {n : Nat} {ds : Ctx} {ops : Array Oper} {Q : Exit → Ctx → Env → World → Prop} {rest : List Oper} {σ : GE} {w : World} {d : Nat} {ty t : TypeId} {pos : String} {af : Array Edge} {zv : Value} {size bytes : Nat} {j dj : Nat} {want b c : Bool}
theorem bm2 {σ : Env} {x y : Operand} {v u : Value} {i k : Nat} (h : evl σ x = v) (h2 : evl σ y = u) : [(i, x), (k, y)].map (fun p => (p.1, evl σ p.2)) = [(i, v), (k, u)] := by simp [h, h2]
end
end Go.Sv
namespace Go.Proofs.YtkclldfejembnaaDoor
open Go Go.Sv Go.RowKit

/-- may an event be? -/
def evR (e : Ev) : Bool :=
  if e.kind = 0 then !decide (e.text = []) && validR e.text && decide (e.name = []) && decide (e.attrs.length = 0)
  else if e.kind = 1 then decide (e.text = []) && mayR e.start && !voidR e.name
  else if e.kind = 3 then decide (e.text = []) && mayR e.start && voidR e.name
  else if e.kind = 2 then decide (e.text = []) && decide (e.attrs.length = 0) && mayR e.close
  else false





































































































































































































end Go.Proofs.YtkclldfejembnaaDoor

/-
  How events nest: the plain part; the stack of names.
-/
set_option linter.unusedSimpArgs false
set_option linter.unusedVariables false
set_option linter.unnecessarySimpa false
namespace Go.Sv
open Go Go.RowKit
/-- a cut behind a piece of code -/
theorem wcutt {P : Program} {n : Nat} {ds : Ctx} {K : Ctx → Env → World → Prop} {Q : Exit → Ctx → Env → World → Prop} {σ : Env} {w : World} {a : Code} {X : Type} (sl : X → List (Nat × Value)) (I : X → World → Prop)
    (ha : WC P n ds a (thl ds (fun σ w => ∃ x, Has σ (sl x) ∧ I x w) Q) σ w) (hb : ∀ x w (ρ : GE), I x w → K ds (real (updGL ρ (sl x))) w) : WC P n ds a (thn K Q) σ w := by
  refine WC_mono ha ?_
  intro e c' σ' w' h
  unfold thl at h
  unfold thn
  cases e <;> try exact h
  obtain ⟨rfl, x, h1, h2⟩ := h
  have := hb x w' (lif σ') h2
  rw [← real_updL, updL_has h1] at this
  exact this
/-- two worlds that agree on the first B blocks -/
structure Same (B : Nat) (w w' : World) : Prop where
  os : w'.os = w.os
  tape : w'.tape = w.tape
  output : w'.output = w.output
  size : B ≤ w'.heap.size
  block : ∀ k, k < B → w'.heap[k]? = w.heap[k]?
theorem Same.frm {w w1 w2 : World} (h : Frm w w1) (h' : Same w.heap.size w1 w2) : Frm w w2 := ⟨h'.os.trans h.os, h'.tape.trans h.tape, h'.output.trans h.output, h'.size, fun k hk => (h'.block k hk).trans (h.block k hk)⟩
theorem Own.same {B : Nat} {w w' : World} {b : Nat} {l : List Value} (h : Own w b l) (hs : Same B w w') (hb : b < B) : Own w' b l := h.of_block (hs.block b hb)
end Go.Sv
namespace Go.Proofs.YtkclldfejembnaaDoor
open Go Go.Sv Go.RowKit

/-! ## The plain part -/
structure Lk where
  stack : List (List UInt8)
  most : Nat
  at_ : Nat
  err : Int
  good : Nat
def lkStep (k : Lk) (e : Ev) : Lk :=
  if k.err = 0 then
    if evR e then
      if e.kind = 1 then ⟨k.stack ++ [e.name], max k.most (k.stack.length + 1), 0, 0, k.good + 1⟩
      else if e.kind = 3 then ⟨k.stack, max k.most (k.stack.length + 1), 0, 0, k.good + 1⟩
      else if e.kind = 2 then (if k.stack.getLast? = some e.name then ⟨k.stack.dropLast, k.most, 0, 0, k.good + 1⟩ else { k with at_ := k.good, err := 181 })
      else ⟨k.stack, k.most, 0, 0, k.good + 1⟩
    else { k with at_ := k.good, err := 180 }
  else k
def lk0 : Lk := ⟨[], 0, 0, 0, 0⟩
/-- how events nest -/
def lkR (l : List Ev) : Lk := l.foldl lkStep lk0
/-! ## A stack of names in memory -/
/-- a stack: where it lies, and its names -/
def pStk (b : Nat) (p : Option Addr) (c : Nat) (st : List (List UInt8)) : List Plot := [pOwn b [.slice p st.length c], pRow 1 p st.length c (strs st)]

































































end Go.Proofs.YtkclldfejembnaaDoor

/-
  A scope in which the run jumps back to its label, once.
-/
set_option linter.unusedSimpArgs false
set_option linter.unusedVariables false
set_option linter.unnecessarySimpa false
namespace Go.Sv
open Go Go.RowKit
/-- what a jump leaves -/
def jmpq (l : Nat) (c : Ctx) (K : Env → World → Prop) (Q : Exit → Ctx → Env → World → Prop) : Exit → Ctx → Env → World → Prop
  | .goto l', c', σ, w => l' = l ∧ c' = c ∧ K σ w
  | e, c', σ, w => Q e c' σ w
section
variable {P : Program} {n l : Nat} {ds : Ctx} {Q : Exit → Ctx → Env → World → Prop} {K : Ctx → Env → World → Prop} {L : Env → World → Prop} {σ : Env} {w : World} {c rest : Code}
theorem WC_goto (h : Q (.goto l) ds σ w) : WC P n ds (.goto l) Q σ w := by
  unfold WC
  exact fun _ => wpIn_goto ⟨ds.ds, σ, rfl, h⟩
theorem jmp_goto (h : L σ w) : jmpq l ds L Q (.goto l) ds σ w := ⟨rfl, rfl, h⟩
theorem jmp_ret (h : Q .ret ds σ w) : jmpq l ds L Q .ret ds σ w := h
theorem wcscope1 {X : Type} (l : Nat) (sl : X → List (Nat × Value)) (I : X → World → Prop) (first : WC P n ds c (jmpq l ds (fun σ w => ∃ x, Has σ (sl x) ∧ I x w) Q) σ w)
    (pass : ∀ x w (ρ : GE), I x w → WC P n ds rest (ngt Q) (real (updGL ρ (sl x))) w) (hro : ds.ro = none := by rfl) (hf : findLabel c l = some rest := by rfl) (hr : codeIn n false rest = true := by kernel_rfl) : WC P n ds (.scope c) Q σ w := by
  obtain ⟨dd, ro⟩ := ds
  dsimp only at hro
  subst hro
  unfold WC
  intro hin
  refine wpIn_wide.2 (wp_scope_jumps l (fun a w => ∃ x σ', a = act n dd σ' ∧ Has σ' (sl x) ∧ I x w) (fun _ _ => 0) hf ?_ ?_)
  · unfold WC at first
    refine wp_mono (wpIn_wide.1 (first hin)) ?_
    rintro e a' w' ⟨dd', σ', rfl, hq⟩
    cases e <;> try exact ⟨dd', σ', rfl, hq⟩
    obtain ⟨rfl, hc, x, h1, h2⟩ := hq
    cases hc
    exact ⟨rfl, x, σ', rfl, h1, h2⟩
  · rintro a w ⟨x, σ', rfl, hh, hi⟩
    have h1 := pass x w (lif σ') hi
    unfold WC at h1
    have h2 := h1 hr
    rw [← real_updL, updL_has hh] at h2
    refine wp_mono (wpIn_wide.1 h2) ?_
    rintro e a' w' ⟨dd', σ', rfl, hq⟩
    cases e <;> try exact ⟨dd', σ', rfl, by unfold ngt at hq; exact hq⟩
    unfold ngt at hq
    exact hq.elim
end
/-- a cut behind a piece of code that stands in a block -/
theorem wcutj {P : Program} {n i : Nat} {ds : Ctx} {K : Ctx → Env → World → Prop} {Q : Exit → Ctx → Env → World → Prop} {σ : Env} {w : World} {a : Code} {X : Type} (sl : X → List (Nat × Value)) (I : X → World → Prop)
    (ha : WC P n ds a (blk i (thl ds (fun σ w => ∃ x, Has σ (sl x) ∧ I x w) Q)) σ w) (hb : ∀ x w (ρ : GE), I x w → K ds (real (updGL ρ (sl x))) w) : WC P n ds a (blk i (thn K Q)) σ w := by
  refine WC_mono ha ?_
  have hn : ∀ c' σ' w', thl ds (fun σ w => ∃ x, Has σ (sl x) ∧ I x w) Q .normal c' σ' w' → thn K Q .normal c' σ' w' := by
    intro c' σ' w' h
    unfold thl at h
    unfold thn
    obtain ⟨rfl, x, h1, h2⟩ := h
    have := hb x w' (lif σ') h2
    rw [← real_updL, updL_has h1] at this
    exact this
  intro e c' σ' w' h
  unfold blk at h ⊢
  cases e with
  | normal => exact hn _ _ _ h
  | exit j =>
    dsimp only at h ⊢
    cases hj : Nat.beq j i with
    | true => rw [hj] at h; exact hn _ _ _ h
    | false => rw [hj] at h; unfold thl at h; unfold thn; exact h
  | _ => unfold thl at h; unfold thn; exact h
/-- the first of four behind the others -/
theorem Sep.rot4 {w0 w : World} {a b c d : Plot} {cs : List Plot} (h : Sep w0 w (a :: b :: c :: d :: cs)) : Sep w0 w (b :: c :: d :: a :: cs) := ((h.front 3 rfl).front 3 rfl).front 3 rfl
theorem Sep.asRow {w0 w : World} {b size n : Nat} {l : List Value} {cs : List Plot} (h : Sep w0 w (pOwn b l :: cs)) (hl : l.length = n * size) (hn : n ≤ 9223372036854775807) : Sep w0 w (pRow size (pb b) n n l :: cs) :=
  h.turn (c' := pRow size (pb b) n n l) 0 rfl (fun h => Row.of_own h hl hn) fun _ hx => hx
theorem Sep.nilRow {w0 w : World} {cs : List Plot} (h : Sep w0 w cs) (size : Nat) : Sep w0 w (pRow size none 0 0 [] :: cs) := h.push (Frm.refl w) (Row.nil w size) (by simp [pRow, rb])
attribute [irreducible] jmpq
end Go.Sv

/-
  Package raw: a scanner in memory; what is content.
-/
set_option linter.unusedSimpArgs false
set_option linter.unusedVariables false
set_option linter.unnecessarySimpa false
namespace Go.Proofs.YtkclldfejembnaaDoor
open Go Go.Sv Go.RowKit

/-- where a scanner's slices lie -/
structure ScP where
  ps : Option Addr
  cs : Nat
  ph : Option Addr
  ch : Nat
  pt : Option Addr
  ct : Nat
def scPlots (b : Nat) (name : List UInt8) (wh : Nat) (s : Sc) (q : ScP) (cs : List Plot) : List Plot :=
  pOwn b [str name, int wh, .slice q.ps s.sure.length q.cs, .slice q.ph s.held.length q.ch, .slice q.pt s.tail.length q.ct, int s.part, int s.dash, i32 s.last, .bool s.over, .bool s.ended, .bool true] ::
    pRow 1 q.ps s.sure.length q.cs (rs32 s.sure) :: pRow 1 q.ph s.held.length q.ch (rs32 s.held) :: pRow 1 q.pt s.tail.length q.ct (rs32 s.tail) :: cs
/-- what stays within bounds -/
structure Sc.Ok (s : Sc) (n : Nat) : Prop where
  len : s.sure.length + s.held.length ≤ n
  tail : s.tail.length ≤ 9
  dash : s.dash ≤ s.sure.length
  low : s.part = 0 → s.dash ≤ 3
  three : s.part ≤ 2
  good : (∀ r ∈ s.sure, Good r) ∧ (∀ r ∈ s.held, Good r) ∧ ∀ r ∈ s.tail, Good r
theorem rs32_snoc (l : List Nat) (r : Nat) : rs32 l ++ [i32 r] = rs32 (l ++ [r]) := by simp [rs32]

theorem gap_ok (r : Nat) (w : World) : PureC Tryd.prog 50 #[i32 r] w (.bool (gapN r)) := by
  refine enter (l := [i32 r]) Tryd.func50 rfl Tryd.ntmps50 (by kernel_rfl) rfl ?_
  refine sgo ?_
  (first | refine fp1 (.inl rfl) rfl rfl ?_ | refine fp2 (.inl rfl) rfl rfl rfl ?_ | refine fp3 (.inl rfl) rfl rfl rfl rfl ?_ | refine fp0 (.inr rfl) rfl ?_ | refine fp0 (.inl rfl) rfl ?_ | refine fp1 (.inr rfl) rfl rfl ?_); refine ⟨?_, by (first | exact Frm.refl _ | assumption | exact Go.Sv.Sep.frm (by assumption) | (refine Frm.trans ?_ (by assumption); first | exact Frm.refl _ | assumption))⟩; (try simp only [realB, rv_true, Nat.reduceBEq, cond_true, cond_false, entG, real_lif, updGL])
  refine congrArg Value.bool ?_
  unfold gapN
  rw [Bool.eq_iff_iff]
  simp only [pkb_or, pkb_and, Bool.or_eq_true, Bool.and_eq_true, decide_eq_true_eq]
  omega
theorem stop_ok (r : Nat) (w : World) : PureC Tryd.prog 41 #[i32 r] w (.bool (stopN r)) := by
  refine enter (l := [i32 r]) Tryd.func41 rfl Tryd.ntmps41 (by kernel_rfl) rfl ?_
  refine sgo ?_
  refine wlpure (gap_ok r _) fun w1 hf1 => ?_
  refine sgo ?_
  (first | refine fp1 (.inl rfl) rfl rfl ?_ | refine fp2 (.inl rfl) rfl rfl rfl ?_ | refine fp3 (.inl rfl) rfl rfl rfl rfl ?_ | refine fp0 (.inr rfl) rfl ?_ | refine fp0 (.inl rfl) rfl ?_ | refine fp1 (.inr rfl) rfl rfl ?_); refine ⟨?_, by (first | exact Frm.refl _ | assumption | exact Go.Sv.Sep.frm (by assumption) | (refine Frm.trans ?_ (by assumption); first | exact Frm.refl _ | assumption))⟩; (try simp only [realB, rv_true, Nat.reduceBEq, cond_true, cond_false, entG, real_lif, updGL])
  refine congrArg Value.bool ?_
  unfold stopN
  rw [Bool.eq_iff_iff]
  simp only [pkb_or, pkb_and, Bool.or_eq_true, Bool.and_eq_true, decide_eq_true_eq]
  generalize gapN r = g
  cases g <;> simp <;> omega
theorem lowRune_ok (c : Nat) (w : World) (hb : c < 1114112) : PureC Tryd.prog 49 #[i32 c] w (i32 (lowN c)) := by
  refine enter (l := [i32 c]) Tryd.func49 rfl Tryd.ntmps49 (by kernel_rfl) rfl ?_
  refine sgo ?_
  refine wlpure (upper_ok c _) fun w1 hf1 => ?_
  unfold lowN
  refine sgo ?_
  (show WC _ _ _ _ _ _ _; first | refine WC_dec rfl (fun hc => ?_) (fun hc => ?_) | refine WC_cond rfl (fun hc => ?_) (fun hc => ?_))
  · have := hc
    simp only [upperR, Bool.and_eq_true, decide_eq_true_eq] at this
    refine sgo ?_
    (first | refine fp1 (.inl rfl) rfl rfl ?_ | refine fp2 (.inl rfl) rfl rfl rfl ?_ | refine fp3 (.inl rfl) rfl rfl rfl rfl ?_ | refine fp0 (.inr rfl) rfl ?_ | refine fp0 (.inl rfl) rfl ?_ | refine fp1 (.inr rfl) rfl rfl ?_); refine ⟨?_, by (first | exact Frm.refl _ | assumption | exact Go.Sv.Sep.frm (by assumption) | (refine Frm.trans ?_ (by assumption); first | exact Frm.refl _ | assumption))⟩; (try simp only [realB, rv_true, Nat.reduceBEq, cond_true, cond_false, entG, real_lif, updGL])
    rw [hc, if_pos rfl]
    show Value.int .i32 ((c : Int) + 97 - 65) = .int .i32 ((c + 32 : Nat) : Int)
    congr 1; omega
  · refine sgo ?_
    (first | refine fp1 (.inl rfl) rfl rfl ?_ | refine fp2 (.inl rfl) rfl rfl rfl ?_ | refine fp3 (.inl rfl) rfl rfl rfl rfl ?_ | refine fp0 (.inr rfl) rfl ?_ | refine fp0 (.inl rfl) rfl ?_ | refine fp1 (.inr rfl) rfl rfl ?_); refine ⟨?_, by (first | exact Frm.refl _ | assumption | exact Go.Sv.Sep.frm (by assumption) | (refine Frm.trans ?_ (by assumption); first | exact Frm.refl _ | assumption))⟩; (try simp only [realB, rv_true, Nat.reduceBEq, cond_true, cond_false, entG, real_lif, updGL])
    rw [hc]
    rfl
set_option maxHeartbeats 1000000 in
theorem opens_ok (b : Nat) (name : List UInt8) (wh : Nat) (s : Sc) (q : ScP) (r : Nat) (hp : s.part = 0) (hd : s.dash ≤ 3) (w0 w : World) (cs : List Plot) (hS : Sep w0 w (scPlots b name wh s q cs)) :
    CallsR Tryd.prog 48 #[ptrAt (pb b) 0, i32 r] w fun _ w' => Sep w0 w' (scPlots b name wh { s with part := (opensP s.dash r).1, dash := (opensP s.dash r).2 } q cs) := by
  obtain ⟨sure, held, tail, part, dash, last, over, ended⟩ := s
  obtain ⟨ps, pc, ph, ch, pt, ct⟩ := q
  dsimp only at hp hd ⊢
  subst hp
  unfold scPlots at hS ⊢
  dsimp only at hS ⊢
  refine enter (l := [ptrAt (pb b) 0, i32 r]) Tryd.func48 rfl Tryd.ntmps48 (by kernel_rfl) rfl ?_
  have h4 : dash = 0 ∨ dash = 1 ∨ dash = 2 ∨ dash = 3 := by omega
  have hdd : begN.getD dash 0 < 128 := by rcases h4 with rfl | rfl | rfl | rfl <;> decide
  have hidx : (([60, 33, 45, 45] : List UInt8)[dash]?.getD 0).toNat = begN.getD dash 0 := by rcases h4 with rfl | rfl | rfl | rfl <;> rfl
  refine sgo ?_
  refine wl_idx ?_ (hy := y_sindexN (l := [60, 33, 45, 45]) (i := dash) rfl rfl (show dash < 4 by omega))
  rw [hidx]
  unfold opensP opensD
  generalize begN.getD dash 0 = g at *
  clear hidx
  refine sgo ?_
  refine wcutj (X := Unit) (fun _ => [(0, ptrAt (pb b) 0), (1, i32 r)]) (fun _ w' => Sep w0 w' (pOwn b [str name, int wh, .slice ps sure.length pc, .slice ph held.length ch, .slice pt tail.length ct, int (0 : Nat), int (if g = r then dash + 1 else if r = 60 then 1 else 0 : Nat), i32 last, .bool over, .bool ended, .bool true] ::
    pRow 1 ps sure.length pc (rs32 sure) :: pRow 1 ph held.length ch (rs32 held) :: pRow 1 pt tail.length ct (rs32 tail) :: cs)) ?_ ?_
  · (show WC _ _ _ _ _ _ _; first | refine WC_dec rfl (fun hc => ?_) (fun hc => ?_) | refine WC_cond rfl (fun hc => ?_) (fun hc => ?_))
    · replace hc : g = r := by omega
      refine sgo ?_
      refine sst_int hS 0 fun w1 hS => ?_
      refine sgo ?_
      refine ⟨(), ⟨rfl, rfl, trivial⟩, ?_⟩
      rw [if_pos hc]
      exact hS
    · replace hc : ¬ g = r := by omega
      simp only [if_neg hc]
      clear hc
      refine sgo ?_
      (show WC _ _ _ _ _ _ _; first | refine WC_dec rfl (fun hc => ?_) (fun hc => ?_) | refine WC_cond rfl (fun hc => ?_) (fun hc => ?_))
      · replace hc : r = 60 := by omega
        refine sgo ?_
        refine sst_int hS 0 fun w1 hS => ?_
        refine sgo ?_
        refine ⟨(), ⟨rfl, rfl, trivial⟩, ?_⟩
        rw [if_pos hc]
        exact hS
      · replace hc : ¬ r = 60 := by omega
        refine sgo ?_
        refine sst_int hS 0 fun w1 hS => ?_
        refine sgo ?_
        refine ⟨(), ⟨rfl, rfl, trivial⟩, ?_⟩
        rw [if_neg hc]
        exact hS
  · clear hS
    rintro _ w1 ρ hS
    generalize (if g = r then dash + 1 else if r = 60 then 1 else 0 : Nat) = d at *
    refine sgo ?_
    (show WC _ _ _ _ _ _ _; first | refine WC_dec rfl (fun hc => ?_) (fun hc => ?_) | refine WC_cond rfl (fun hc => ?_) (fun hc => ?_))
    · replace hc : d = 4 := by omega
      rw [if_pos hc]
      refine sgo ?_
      refine sst_int hS 0 fun w1 hS => ?_
      refine sgo ?_
      refine sst_int hS 0 fun w1 hS => ?_
      refine sgo ?_
      (first | refine fp1 (.inl rfl) rfl rfl ?_ | refine fp2 (.inl rfl) rfl rfl rfl ?_ | refine fp3 (.inl rfl) rfl rfl rfl rfl ?_ | refine fp0 (.inr rfl) rfl ?_ | refine fp0 (.inl rfl) rfl ?_ | refine fp1 (.inr rfl) rfl rfl ?_)
      exact hS
    · replace hc : ¬ d = 4 := by omega
      rw [if_neg hc]
      refine sgo ?_
      (first | refine fp1 (.inl rfl) rfl rfl ?_ | refine fp2 (.inl rfl) rfl rfl rfl ?_ | refine fp3 (.inl rfl) rfl rfl rfl rfl ?_ | refine fp0 (.inr rfl) rfl ?_ | refine fp0 (.inl rfl) rfl ?_ | refine fp1 (.inr rfl) rfl rfl ?_)
      exact hS
end Go.Proofs.YtkclldfejembnaaDoor

/-
  Package raw: turn, content.
-/
set_option linter.unusedSimpArgs false
set_option linter.unusedVariables false
set_option linter.unnecessarySimpa false
namespace Go.Proofs.YtkclldfejembnaaDoor
open Go Go.Sv Go.RowKit

set_option maxHeartbeats 1000000 in
theorem turn_ok (b : Nat) (name : List UInt8) (wh : Nat) (s : Sc) (q : ScP) (r : Nat) (hr : Good r) (ht : s.tail.length ≤ 9) (hg : ∀ r ∈ s.tail, Good r) (w0 w : World) (cs : List Plot) (hS : Sep w0 w (scPlots b name wh s q cs)) :
    CallsR Tryd.prog 47 #[ptrAt (pb b) 0, i32 r] w fun _ w' => ∃ q', Sep w0 w' (scPlots b name wh { s with tail := turnT s.tail r, part := turnP s.part s.tail r } q' cs) := by
  obtain ⟨sure, held, tail, part, dash, last, over, ended⟩ := s
  obtain ⟨ps, pc, ph, ch, pt, ct⟩ := q
  dsimp only at ht hg ⊢
  unfold scPlots at hS ⊢
  dsimp only at hS ⊢
  have hel := encR_flat tail
  have hlow := lower_ok (tail.flatMap encR) (by omega)
  unfold turnP
  generalize hW : tail.flatMap encR = W at *
  refine enter (l := [ptrAt (pb b) 0, i32 r]) Tryd.func47 rfl Tryd.ntmps47 (by kernel_rfl) rfl ?_
  refine sgo ?_
  refine wlpure (stop_ok r _) fun w1 hf1 => ?_
  replace hS := hS.grow hf1
  refine sgo ?_
  refine wcutt (X := Unit) (fun _ => [(0, ptrAt (pb b) 0), (1, i32 r)]) (fun _ w' => Sep w0 w' (pOwn b [str name, int wh, .slice ps sure.length pc, .slice ph held.length ch, .slice pt tail.length ct, int (if stopN r = true then (if part = 1 ∧ lowR W = wScr then 2 else if part = 2 ∧ lowR W = wScrEnd then 1 else part) else part : Nat), int dash, i32 last, .bool over, .bool ended, .bool true] ::
    pRow 1 ps sure.length pc (rs32 sure) :: pRow 1 ph held.length ch (rs32 held) :: pRow 1 pt tail.length ct (rs32 tail) :: cs)) ?_ ?_
  · (show WC _ _ _ _ _ _ _; first | refine WC_dec rfl (fun hc => ?_) (fun hc => ?_) | refine WC_cond rfl (fun hc => ?_) (fun hc => ?_))
    · rw [if_pos hc]
      clear hc
      refine sgo ?_
      refine wl ?_ (y_r2s (rs := tail) hg (hS.row 3 rfl).sg rfl)
      rw [hW]
      refine wlpure (hlow _) fun w2 hf2 => ?_
      replace hS := hS.grow hf2
      generalize lowR W = V at *
      refine sgo ?_
      (show WC _ _ _ _ _ _ _; first | refine WC_dec rfl (fun hc => ?_) (fun hc => ?_) | refine WC_cond rfl (fun hc => ?_) (fun hc => ?_))
      · simp only [pkb_and, Bool.and_eq_true, decide_eq_true_eq] at hc
        have hc' : part = 1 ∧ V = wScr := ⟨by omega, hc.2⟩
        rw [if_pos hc']
        refine sgo ?_
        refine sst_int hS 0 fun w1 hS => ?_
        refine sgo ?_
        exact ⟨(), ⟨rfl, rfl, trivial⟩, hS⟩
      · simp only [pkb_and, Bool.and_eq_false_iff, decide_eq_false_iff_not] at hc
        have hc' : ¬ (part = 1 ∧ V = wScr) := fun h => hc.elim (fun k => k (by omega)) fun k => k h.2
        rw [if_neg hc']
        clear hc hc'
        refine sgo ?_
        (show WC _ _ _ _ _ _ _; first | refine WC_dec rfl (fun hc => ?_) (fun hc => ?_) | refine WC_cond rfl (fun hc => ?_) (fun hc => ?_))
        · simp only [pkb_and, Bool.and_eq_true, decide_eq_true_eq] at hc
          have hc' : part = 2 ∧ V = wScrEnd := ⟨by omega, hc.2⟩
          rw [if_pos hc']
          refine sgo ?_
          refine sst_int hS 0 fun w1 hS => ?_
          refine sgo ?_
          exact ⟨(), ⟨rfl, rfl, trivial⟩, hS⟩
        · simp only [pkb_and, Bool.and_eq_false_iff, decide_eq_false_iff_not] at hc
          have hc' : ¬ (part = 2 ∧ V = wScrEnd) := fun h => hc.elim (fun k => k (by omega)) fun k => k h.2
          rw [if_neg hc']
          refine sgo ?_
          exact ⟨(), ⟨rfl, rfl, trivial⟩, hS⟩
    · rw [if_neg (by simp [hc])]
      refine sgo ?_
      exact ⟨(), ⟨rfl, rfl, trivial⟩, hS⟩
  · clear hS
    rintro _ w1 ρ hS
    generalize (if stopN r = true then (if part = 1 ∧ lowR W = wScr then 2 else if part = 2 ∧ lowR W = wScrEnd then 1 else part) else part : Nat) = part' at *
    unfold turnT
    refine sgo ?_
    (show WC _ _ _ _ _ _ _; first | refine WC_dec rfl (fun hc => ?_) (fun hc => ?_) | refine WC_cond rfl (fun hc => ?_) (fun hc => ?_))
    · replace hc : r = 60 := by omega
      subst hc
      rw [if_pos rfl]
      refine sgo ?_
      refine sb1i hS fun b2 w2 hS => ?_
      refine sgo ?_
      refine sst_slice hS 1 fun w4 hS => ?_
      refine sgo ?_
      (first | refine fp1 (.inl rfl) rfl rfl ?_ | refine fp2 (.inl rfl) rfl rfl rfl ?_ | refine fp3 (.inl rfl) rfl rfl rfl rfl ?_ | refine fp0 (.inr rfl) rfl ?_ | refine fp0 (.inl rfl) rfl ?_ | refine fp1 (.inr rfl) rfl rfl ?_)
      refine ⟨⟨ps, pc, ph, ch, pb b2, 1⟩, ?_⟩
      replace hS : Sep w0 w4 (pOwn b2 [i32 (60 : Nat)] :: pOwn b [str name, int wh, .slice ps sure.length pc, .slice ph held.length ch, .slice (pb b2) 1 1, int part', int dash, i32 last, .bool over, .bool ended, .bool true] ::
        pRow 1 ps sure.length pc (rs32 sure) :: pRow 1 ph held.length ch (rs32 held) :: pRow 1 pt tail.length ct (rs32 tail) :: cs) := hS
      exact ((hS.asRow (n := 1) rfl (by decide)).drop 4).rot4
    · replace hc : ¬ r = 60 := by omega
      rw [if_neg hc]
      clear hc
      refine sgo ?_
      (show WC _ _ _ _ _ _ _; first | refine WC_dec rfl (fun hc => ?_) (fun hc => ?_) | refine WC_cond rfl (fun hc => ?_) (fun hc => ?_))
      · simp only [pkb_and, Bool.and_eq_true, decide_eq_true_eq] at hc
        have hc' : 0 < tail.length ∧ tail.length < 9 := by omega
        rw [if_pos hc']
        clear hc
        refine sgo ?_
        refine sb1i hS fun b2 w2 hS => ?_
        refine sgo ?_
        refine sapp hS 4 (hS.own 0 rfl).sg fun p' c' w3 hS => ?_
        replace hS := hS.tail
        rw [rs32_snoc] at hS
        have hn : tail.length + 1 = (tail ++ [r]).length := by simp
        rw [hn] at hS ⊢
        refine sgo ?_
        refine sst_slice hS 0 fun w4 hS => ?_
        refine sgo ?_
        (first | refine fp1 (.inl rfl) rfl rfl ?_ | refine fp2 (.inl rfl) rfl rfl rfl ?_ | refine fp3 (.inl rfl) rfl rfl rfl rfl ?_ | refine fp0 (.inr rfl) rfl ?_ | refine fp0 (.inl rfl) rfl ?_ | refine fp1 (.inr rfl) rfl rfl ?_)
        exact ⟨⟨ps, pc, ph, ch, p', c'⟩, hS⟩
      · simp only [pkb_and, Bool.and_eq_false_iff, decide_eq_false_iff_not] at hc
        have hc' : ¬ (0 < tail.length ∧ tail.length < 9) := by omega
        rw [if_neg hc']
        refine sgo ?_
        (first | refine fp1 (.inl rfl) rfl rfl ?_ | refine fp2 (.inl rfl) rfl rfl rfl ?_ | refine fp3 (.inl rfl) rfl rfl rfl rfl ?_ | refine fp0 (.inr rfl) rfl ?_ | refine fp0 (.inl rfl) rfl ?_ | refine fp1 (.inr rfl) rfl rfl ?_)
        exact ⟨⟨ps, pc, ph, ch, pt, ct⟩, hS⟩

set_option maxHeartbeats 1000000 in
theorem content_ok (b : Nat) (name : List UInt8) (wh : Nat) (s : Sc) (q : ScP) (r n : Nat) (hr : Good r) (ho : s.Ok n) (hn : n ≤ 1073741824) (w0 w : World) (cs : List Plot) (hS : Sep w0 w (scPlots b name wh s q cs)) :
    CallsR Tryd.prog 39 #[ptrAt (pb b) 0, i32 r] w fun _ w' => ∃ q', Sep w0 w' (scPlots b name wh (contR wh s r) q' cs) := by
  obtain ⟨hlen, htl, hdash, hlow, hthree, hg1, hg2, hg3⟩ := ho
  have hturn := fun w sure ps pc (hS : Sep w0 w (scPlots b name wh { s with sure := sure } { q with ps := ps, cs := pc } cs)) => turn_ok b name wh { s with sure := sure } { q with ps := ps, cs := pc } r hr htl hg3 w0 w cs hS
  have hopens := fun w s' q' (h1 : s'.part = 0) (h2 : s'.dash ≤ 3) (hS : Sep w0 w (scPlots b name wh s' q' cs)) => opens_ok b name wh s' q' r h1 h2 w0 w cs hS
  obtain ⟨sure, held, tail, part, dash, last, over, ended⟩ := s
  obtain ⟨ps, pc, ph, ch, pt, ct⟩ := q
  dsimp only at hlen htl hdash hlow hthree hg1 hg2 hg3 hturn ⊢
  unfold contR
  unfold scPlots at hS
  dsimp only at hS ⊢
  refine enter (l := [ptrAt (pb b) 0, i32 r]) Tryd.func39 rfl Tryd.ntmps39 (by kernel_rfl) rfl ?_
  refine sgo ?_
  refine sb1i hS fun b2 w2 hS => ?_
  refine sgo ?_
  refine sapp hS 2 (hS.own 0 rfl).sg fun p' c' w3 hS => ?_
  replace hS := hS.tail
  rw [rs32_snoc] at hS
  have hn' : sure.length + 1 = (sure ++ [r]).length := by simp
  rw [hn'] at hS ⊢
  refine sgo ?_
  refine sst_slice hS 0 fun w4 hS => ?_
  replace hS : Sep w0 w4 (scPlots b name wh ⟨sure ++ [r], held, tail, part, dash, last, over, ended⟩ ⟨p', c', ph, ch, pt, ct⟩ cs) := hS
  have hS' := hS
  unfold scPlots at hS'
  refine sgo ?_
  (show WC _ _ _ _ _ _ _; first | refine WC_dec rfl (fun hc => ?_) (fun hc => ?_) | refine WC_cond rfl (fun hc => ?_) (fun hc => ?_))
  · replace hc : ¬ wh = 3 := by omega
    rw [if_neg hc]
    clear hS'
    refine sgo ?_
    (first | refine fp1 (.inl rfl) rfl rfl ?_ | refine fp2 (.inl rfl) rfl rfl rfl ?_ | refine fp3 (.inl rfl) rfl rfl rfl rfl ?_ | refine fp0 (.inr rfl) rfl ?_ | refine fp0 (.inl rfl) rfl ?_ | refine fp1 (.inr rfl) rfl rfl ?_)
    exact ⟨_, hS⟩
  · replace hc : wh = 3 := by omega
    rw [if_pos hc]
    clear hc hS'
    refine sgo ?_
    refine wlcall (hturn _ _ _ _ hS) ?_
    clear hS hturn
    rintro _ w5 ⟨q5, hS⟩
    try dsimp only at hS
    generalize hT : turnT tail r = tail' at *
    have hpz : turnP part tail r = 0 → dash ≤ 3 := by
      unfold turnP
      intro h
      refine hlow ?_
      revert h
      split
      · split
        · intro h; cases h
        · split
          · intro h; cases h
          · exact fun h => h
      · exact fun h => h
    have hp3 : turnP part tail r ≤ 2 := by
      unfold turnP
      split
      · split
        · omega
        · split <;> omega
      · omega
    generalize turnP part tail r = part' at *
    obtain ⟨ps, pc, ph, ch, pt, ct⟩ := q5
    have hS' := hS
    unfold scPlots at hS'
    dsimp only at hS'
    unfold partD
    refine sgo ?_
    (show WC _ _ _ _ _ _ _; first | refine WC_dec rfl (fun hc => ?_) (fun hc => ?_) | refine WC_cond rfl (fun hc => ?_) (fun hc => ?_))
    · replace hc : part' = 0 := by omega
      rw [if_pos hc]
      clear hS'
      refine sgo ?_
      refine wlcall (hopens _ _ _ hc (hpz hc) hS) ?_
      rintro _ w6 hS
      refine sgo ?_
      (first | refine fp1 (.inl rfl) rfl rfl ?_ | refine fp2 (.inl rfl) rfl rfl rfl ?_ | refine fp3 (.inl rfl) rfl rfl rfl rfl ?_ | refine fp0 (.inr rfl) rfl ?_ | refine fp0 (.inl rfl) rfl ?_ | refine fp1 (.inr rfl) rfl rfl ?_)
      exact ⟨_, hS⟩
    · replace hc : ¬ part' = 0 := by omega
      rw [if_neg hc]
      clear hopens hS
      refine sgo ?_
      (show WC _ _ _ _ _ _ _; first | refine WC_dec rfl (fun hc => ?_) (fun hc => ?_) | refine WC_cond rfl (fun hc => ?_) (fun hc => ?_))
      · replace hc : r = 45 := by omega
        rw [if_pos hc]
        refine sgo ?_
        refine sst_int hS' 0 fun w6 hS => ?_
        refine sgo ?_
        (first | refine fp1 (.inl rfl) rfl rfl ?_ | refine fp2 (.inl rfl) rfl rfl rfl ?_ | refine fp3 (.inl rfl) rfl rfl rfl rfl ?_ | refine fp0 (.inr rfl) rfl ?_ | refine fp0 (.inl rfl) rfl ?_ | refine fp1 (.inr rfl) rfl rfl ?_)
        exact ⟨⟨ps, pc, ph, ch, pt, ct⟩, hS⟩
      · replace hc : ¬ r = 45 := by omega
        rw [if_neg hc]
        clear hc
        refine sgo ?_
        (show WC _ _ _ _ _ _ _; first | refine WC_dec rfl (fun hc => ?_) (fun hc => ?_) | refine WC_cond rfl (fun hc => ?_) (fun hc => ?_))
        · simp only [pkb_and, Bool.and_eq_true, decide_eq_true_eq] at hc
          have hc' : r = 62 ∧ 2 ≤ dash := by omega
          rw [if_pos hc']
          refine sgo ?_
          refine sst_int hS' 0 fun w6 hS => ?_
          refine sgo ?_
          refine sst_int hS 0 fun w6 hS => ?_
          refine sgo ?_
          (first | refine fp1 (.inl rfl) rfl rfl ?_ | refine fp2 (.inl rfl) rfl rfl rfl ?_ | refine fp3 (.inl rfl) rfl rfl rfl rfl ?_ | refine fp0 (.inr rfl) rfl ?_ | refine fp0 (.inl rfl) rfl ?_ | refine fp1 (.inr rfl) rfl rfl ?_)
          exact ⟨⟨ps, pc, ph, ch, pt, ct⟩, hS⟩
        · simp only [pkb_and, Bool.and_eq_false_iff, decide_eq_false_iff_not] at hc
          have hc' : ¬ (r = 62 ∧ 2 ≤ dash) := by omega
          rw [if_neg hc']
          refine sgo ?_
          refine sst_int hS' 0 fun w6 hS => ?_
          refine sgo ?_
          (first | refine fp1 (.inl rfl) rfl rfl ?_ | refine fp2 (.inl rfl) rfl rfl rfl ?_ | refine fp3 (.inl rfl) rfl rfl rfl rfl ?_ | refine fp0 (.inr rfl) rfl ?_ | refine fp0 (.inl rfl) rfl ?_ | refine fp1 (.inr rfl) rfl rfl ?_)
          exact ⟨⟨ps, pc, ph, ch, pt, ct⟩, hS⟩
end Go.Proofs.YtkclldfejembnaaDoor

/-
  Package raw: goes, put.
-/
set_option linter.unusedSimpArgs false
set_option linter.unusedVariables false
set_option linter.unnecessarySimpa false
namespace Go.Proofs.YtkclldfejembnaaDoor
open Go Go.Sv Go.RowKit

theorem good_lt {r : Nat} (h : Good r) : r < 1114112 := h.1
theorem ok_cont {s : Sc} {m n wh r : Nat} (h : s.Ok m) (hr : Good r) (hn : s.sure.length + s.held.length + 1 ≤ n) : (contR wh s r).Ok n := by
  obtain ⟨h1, h2, h3, h4, h5, g1, g2, g3⟩ := h
  have gs : ∀ x ∈ s.sure ++ [r], Good x := fun x hx => by
    rcases List.mem_append.1 hx with hx | hx
    · exact g1 x hx
    · rw [List.mem_singleton.1 hx]; exact hr
  have gt : ∀ x ∈ turnT s.tail r, Good x := fun x hx => by
    unfold turnT at hx
    split at hx
    · rw [List.mem_singleton.1 hx]; exact ⟨by decide, by decide⟩
    · split at hx
      · rcases List.mem_append.1 hx with hx | hx
        · exact g3 x hx
        · rw [List.mem_singleton.1 hx]; exact hr
      · exact g3 x hx
  have lt : (turnT s.tail r).length ≤ 9 := by
    unfold turnT
    split
    · simp
    · split
      · simp; omega
      · exact h2
  have tp : turnP s.part s.tail r ≤ 2 ∧ (turnP s.part s.tail r = 0 → s.part = 0) := by
    unfold turnP
    split
    · split
      · exact ⟨Nat.le_refl 2, fun h => by cases h⟩
      · split
        · exact ⟨by decide, fun h => by cases h⟩
        · exact ⟨h5, fun h => h⟩
    · exact ⟨h5, fun h => h⟩
  unfold contR
  split
  · have key : ∀ p, p ≤ 2 → (p = 0 → s.part = 0) → (partD p s.dash r).2 ≤ s.dash + 1 ∧ ((partD p s.dash r).1 = 0 → (partD p s.dash r).2 ≤ 3) ∧ (partD p s.dash r).1 ≤ 2 := by
      intro p hp hp0
      unfold partD opensP opensD
      by_cases e : p = 0
      · have h44 := h4 (hp0 e)
        rw [if_pos e]
        repeat' split
        all_goals (simp only []; refine ⟨?_, ?_, ?_⟩ <;> (try intro _) <;> omega)
      · rw [if_neg e]
        repeat' split
        all_goals (simp only []; refine ⟨?_, ?_, ?_⟩ <;> (try intro _) <;> omega)
    obtain ⟨k1, k2, k3⟩ := key _ tp.1 tp.2
    exact ⟨by simp only [List.length_append, List.length_singleton]; omega, lt, by simp only [List.length_append, List.length_singleton]; omega, k2, k3, gs, g2, gt⟩
  · exact ⟨by simp only [List.length_append, List.length_singleton]; omega, h2, by simp only [List.length_append, List.length_singleton]; omega, h4, h5, gs, g2, g3⟩
theorem ok_conts {wh n : Nat} : ∀ (l : List Nat) (s : Sc) (m : Nat), s.Ok m → (∀ r ∈ l, Good r) → m ≤ n → s.sure.length + s.held.length + l.length ≤ n → (l.foldl (contR wh) s).Ok n
  | [], s, m, h, _, hm, hn => ⟨hn, h.2, h.3, h.4, h.5, h.6⟩
  | r :: l, s, m, h, hg, hm, hn => by
    rw [List.foldl_cons]
    have hl : (r :: l).length = l.length + 1 := rfl
    have h1 := ok_cont (wh := wh) (n := s.sure.length + s.held.length + 1) h (hg r (by simp)) (Nat.le_refl _)
    refine ok_conts l _ _ h1 (fun x hx => hg x (List.mem_cons_of_mem _ hx)) (by omega) ?_
    rw [cont_sure, cont_held, List.length_append, List.length_singleton]
    omega
theorem ok_first {s : Sc} {m n wh r : Nat} (h : s.Ok m) (h0 : s.held = []) (hr : Good r) (hn : s.sure.length + 1 ≤ n) : (firstS wh s r).Ok n := by
  unfold firstS
  split
  · exact ⟨hn, h.2, h.3, h.4, h.5, h.6.1, fun x hx => by rw [List.mem_singleton.1 hx]; exact hr, h.6.2.2⟩
  · exact ok_cont h hr (by rw [h0]; exact hn)
theorem ok_put {name : List UInt8} {s : Sc} {n wh r : Nat} (h : s.Ok n) (hr : Good r) : (putR name wh s r).Ok (n + 1) := by
  have hlen := h.1
  have g2 := h.6.2.1
  unfold putR
  split
  · rename_i h0
    exact ok_first h h0 hr (by omega)
  · split
    · exact ⟨by simp only [List.length_append, List.length_singleton]; omega, h.2, h.3, h.4, h.5, h.6.1, fun x hx => by
        rcases List.mem_append.1 hx with hx | hx
        · exact g2 x hx
        · rw [List.mem_singleton.1 hx]; exact hr, h.6.2.2⟩
    · split
      · exact ⟨by show s.sure.length + 0 ≤ n + 1; omega, h.2, h.3, h.4, h.5, h.6.1, fun x hx => by simp at hx, h.6.2.2⟩
      · have h0 : Sc.Ok { s with held := [] } n := ⟨by show s.sure.length + 0 ≤ n; omega, h.2, h.3, h.4, h.5, h.6.1, fun x hx => by simp at hx, h.6.2.2⟩
        obtain ⟨c1, c2, -⟩ := conts_keep wh s.held { s with held := [] }
        have hc := ok_conts (wh := wh) (n := n) s.held _ n h0 g2 (Nat.le_refl _) (by show s.sure.length + 0 + s.held.length ≤ n; omega)
        refine ok_first hc c2 hr ?_
        rw [c1, List.length_append]
        show s.sure.length + s.held.length + 1 ≤ n + 1
        omega
theorem ok_sc0 : sc0.Ok 0 := ⟨Nat.le_refl _, by decide, Nat.le_refl _, fun _ => by decide, by decide, fun x hx => by simp [sc0] at hx, fun x hx => by simp [sc0] at hx, fun x hx => by simp [sc0] at hx⟩
theorem ok_scan {name : List UInt8} {wh : Nat} : ∀ (l : List Nat) (s : Sc) (n : Nat), s.Ok n → (∀ r ∈ l, Good r) → (scanR name wh s l).Ok (n + l.length)
  | [], s, n, h, _ => h
  | r :: l, s, n, h, hg => by
    cases ho : s.over with
    | true =>
      rw [scan_over ho]
      exact ⟨by have := h.1; omega, h.2, h.3, h.4, h.5, h.6⟩
    | false =>
      rw [scan_cons ho]
      have := ok_scan (name := name) (wh := wh) l _ (n + 1) (ok_put (name := name) (wh := wh) h (hg r (by simp))) fun x hx => hg x (List.mem_cons_of_mem _ hx)
      rw [show n + (r :: l).length = n + 1 + l.length by simp; omega]
      exact this

set_option maxHeartbeats 1000000 in
theorem goes_ok (b : Nat) (name : List UInt8) (wh : Nat) (s : Sc) (q : ScP) (r : Nat) (hr : Good r) (hb : name.length ≤ 1073741824) (hh : s.held.length ≤ 1073741824) (w0 w : World) (cs : List Plot) (hS : Sep w0 w (scPlots b name wh s q cs)) :
    PureC Tryd.prog 40 #[ptrAt (pb b) 0, i32 r] w (.bool (goesR name s r)) := by
  have hlt := good_lt hr
  obtain ⟨sure, held, tail, part, dash, last, over, ended⟩ := s
  obtain ⟨ps, pc, ph, ch, pt, ct⟩ := q
  unfold goesR
  dsimp only at hh ⊢
  unfold scPlots at hS
  dsimp only at hS
  refine enter (l := [ptrAt (pb b) 0, i32 r]) Tryd.func40 rfl Tryd.ntmps40 (by kernel_rfl) rfl ?_
  refine sgo ?_
  refine wcdraw ?_
  refine qgo ?_
  refine qlcallgp (fun _ w _ => lowRune_ok r w hlt) ?_
  refine qgo ?_
  refine QL_nil ?_
  intro w1 hf1
  refine sgo ?_
  (first | refine fp1 (.inl rfl) rfl rfl ?_ | refine fp2 (.inl rfl) rfl rfl rfl ?_ | refine fp3 (.inl rfl) rfl rfl rfl rfl ?_ | refine fp0 (.inr rfl) rfl ?_ | refine fp0 (.inl rfl) rfl ?_ | refine fp1 (.inr rfl) rfl rfl ?_); refine ⟨?_, by (first | exact Frm.refl _ | assumption | exact Go.Sv.Sep.frm (by assumption) | (refine Frm.trans ?_ (by assumption); first | exact Frm.refl _ | assumption))⟩; (try simp only [realB, rv_true, Nat.reduceBEq, cond_true, cond_false, entG, real_lif, updGL])
  refine congrArg Value.bool ?_
  rw [pkb_and]
  unfold at0
  have hln : ([60, 47] ++ name).length = name.length + 2 := by simp
  rw [Bool.eq_iff_iff]
  simp only [Bool.and_eq_true, decide_eq_true_eq]
  rw [hln]
  omega
end Go.Proofs.YtkclldfejembnaaDoor

/-
  Package raw: put.
-/
set_option linter.unusedSimpArgs false
set_option linter.unusedVariables false
set_option linter.unnecessarySimpa false
namespace Go.Proofs.YtkclldfejembnaaDoor
open Go Go.Sv Go.RowKit

set_option maxHeartbeats 2000000 in
theorem put_ok (b : Nat) (name : List UInt8) (wh : Nat) (s : Sc) (q : ScP) (r n : Nat) (hr : Good r) (ho : s.Ok n) (hn : n < 1073741824) (hb : name.length ≤ 1073741824) (w0 w : World) (cs : List Plot) (hS : Sep w0 w (scPlots b name wh s q cs)) :
    CallsR Tryd.prog 31 #[ptrAt (pb b) 0, i32 r] w fun _ w' => ∃ q', Sep w0 w' (scPlots b name wh (putR name wh s r) q' cs) := by
  have hlen := ho.1
  have g2 := ho.6.2.1
  have hcont : ∀ (s' : Sc) (q : ScP) (x : Nat) (w : World) (cs : List Plot), s'.Ok n → Good x → Sep w0 w (scPlots b name wh s' q cs) → CallsR Tryd.prog 39 #[ptrAt (pb b) 0, i32 x] w fun _ w' => ∃ q', Sep w0 w' (scPlots b name wh (contR wh s' x) q' cs) :=
    fun s' q x w cs h1 h2 h3 => content_ok b name wh s' q x n h2 h1 (by omega) w0 w cs h3
  have hgoes := fun w cs q (hS : Sep w0 w (scPlots b name wh s q cs)) => goes_ok b name wh s q r hr hb (by omega) w0 w cs hS
  obtain ⟨c1, c2, -⟩ := conts_keep wh s.held { s with held := [] }
  have h0ok : Sc.Ok { s with held := [] } n := ⟨by show s.sure.length + 0 ≤ n; omega, ho.2, ho.3, ho.4, ho.5, ho.6.1, fun x hx => by simp at hx, ho.6.2.2⟩
  have hfold : ∀ i, i ≤ s.held.length → Sc.Ok ((s.held.take i).foldl (contR wh) { s with held := [] }) n := fun i hi =>
    ok_conts (wh := wh) (n := n) (s.held.take i) _ n h0ok (fun x hx => g2 x (List.mem_of_mem_take hx)) (Nat.le_refl _) (by show s.sure.length + 0 + (s.held.take i).length ≤ n; rw [List.length_take]; omega)
  unfold putR
  refine enter (l := [ptrAt (pb b) 0, i32 r]) Tryd.func31 rfl Tryd.ntmps31 (by kernel_rfl) rfl ?_
  refine wcscope1 0 (X := ScP) (fun _ => [(0, ptrAt (pb b) 0), (1, i32 r)]) (fun q w' => (s.held ≠ [] ∧ goesR name s r = false ∧ ¬ (s.held.length = name.length + 2 ∧ stopN r = true)) ∧ Sep w0 w' (scPlots b name wh (s.held.foldl (contR wh) { s with held := [] }) q cs)) ?_ ?_
  · have hS' := hS
    unfold scPlots at hS'
    refine sgo ?_
    (show WC _ _ _ _ _ _ _; first | refine WC_dec rfl (fun hc => ?_) (fun hc => ?_) | refine WC_cond rfl (fun hc => ?_) (fun hc => ?_))
    · have h0 : s.held = [] := List.eq_nil_of_length_eq_zero (by omega)
      rw [if_pos h0]
      clear hc
      unfold firstS
      rw [h0] at hS'
      have e0 : (contR wh s r) = contR wh { s with held := [] } r := by rw [← h0]
      have hok := ho
      have hc1 := hcont s
      obtain ⟨sure, held, tail, part, dash, last, over, ended⟩ := s
      obtain ⟨ps, pc, ph, ch, pt, ct⟩ := q
      dsimp only at h0 hS' ⊢
      subst h0
      refine sgo ?_
      (show WC _ _ _ _ _ _ _; first | refine WC_dec rfl (fun hc => ?_) (fun hc => ?_) | refine WC_cond rfl (fun hc => ?_) (fun hc => ?_))
      · simp only [pkb_and, Bool.and_eq_true, decide_eq_true_eq] at hc
        have hc' : r = 60 ∧ wh ≠ 4 ∧ part ≠ 2 := by omega
        rw [if_pos hc']
        clear hc
        refine sgo ?_
        refine sb1i hS' fun b2 w2 hS => ?_
        refine sgo ?_
        refine sapp hS 3 (hS.own 0 rfl).sg (fun p' c' w3 hS => ?_) (hb := by simp only [List.length_nil]; omega)
        replace hS := hS.tail
        refine sgo ?_
        refine sst_slice hS 0 fun w4 hS => ?_
        refine sgo ?_
        refine jmp_ret ?_
        (first | refine fp1 (.inl rfl) rfl rfl ?_ | refine fp2 (.inl rfl) rfl rfl rfl ?_ | refine fp3 (.inl rfl) rfl rfl rfl rfl ?_ | refine fp0 (.inr rfl) rfl ?_ | refine fp0 (.inl rfl) rfl ?_ | refine fp1 (.inr rfl) rfl rfl ?_)
        exact ⟨⟨ps, pc, p', c', pt, ct⟩, hS⟩
      · simp only [pkb_and, Bool.and_eq_false_iff, decide_eq_false_iff_not] at hc
        have hc' : ¬ (r = 60 ∧ wh ≠ 4 ∧ part ≠ 2) := by omega
        rw [if_neg hc']
        clear hc hS'
        refine sgo ?_
        refine wlcall (hc1 _ r _ _ hok hr hS) ?_
        rintro _ w2 ⟨q2, hS⟩
        refine sgo ?_
        refine jmp_ret ?_
        (first | refine fp1 (.inl rfl) rfl rfl ?_ | refine fp2 (.inl rfl) rfl rfl rfl ?_ | refine fp3 (.inl rfl) rfl rfl rfl rfl ?_ | refine fp0 (.inr rfl) rfl ?_ | refine fp0 (.inl rfl) rfl ?_ | refine fp1 (.inr rfl) rfl rfl ?_)
        exact ⟨q2, hS⟩
    · have h0 : ¬ s.held = [] := fun h => hc (by rw [h]; rfl)
      rw [if_neg h0]
      clear hc
      refine sgo ?_
      refine wlpure (hgoes _ _ _ hS) fun w1 hf1 => ?_
      replace hS := hS.grow hf1
      replace hS' := hS'.grow hf1
      refine sgo ?_
      (show WC _ _ _ _ _ _ _; first | refine WC_dec rfl (fun hc => ?_) (fun hc => ?_) | refine WC_cond rfl (fun hc => ?_) (fun hc => ?_))
      · rw [if_pos hc]
        clear hc
        obtain ⟨sure, held, tail, part, dash, last, over, ended⟩ := s
        obtain ⟨ps, pc, ph, ch, pt, ct⟩ := q
        dsimp only at h0 hS' hlen ⊢
        refine sgo ?_
        refine sb1i hS' fun b2 w2 hS => ?_
        refine sgo ?_
        refine sapp hS 3 (hS.own 0 rfl).sg fun p' c' w3 hS => ?_
        replace hS := hS.tail
        rw [rs32_snoc] at hS
        have hn' : held.length + 1 = (held ++ [r]).length := by simp
        rw [hn'] at hS ⊢
        refine sgo ?_
        refine sst_slice hS 0 fun w4 hS => ?_
        refine sgo ?_
        refine jmp_ret ?_
        (first | refine fp1 (.inl rfl) rfl rfl ?_ | refine fp2 (.inl rfl) rfl rfl rfl ?_ | refine fp3 (.inl rfl) rfl rfl rfl rfl ?_ | refine fp0 (.inr rfl) rfl ?_ | refine fp0 (.inl rfl) rfl ?_ | refine fp1 (.inr rfl) rfl rfl ?_)
        exact ⟨⟨ps, pc, p', c', pt, ct⟩, hS⟩
      · have hgf : goesR name s r = false := by simpa using hc
        rw [if_neg (by simp [hgf])]
        clear hc
        refine sgo ?_
        refine wcdraw ?_
        refine qgo ?_
        refine qlcallgp (fun _ w _ => stop_ok r w) ?_
        refine qgo ?_
        refine QL_nil ?_
        intro w2 hf2
        replace hS := hS.grow hf2
        replace hS' := hS'.grow hf2
        refine sgo ?_
        (show WC _ _ _ _ _ _ _; first | refine WC_dec rfl (fun hc => ?_) (fun hc => ?_) | refine WC_cond rfl (fun hc => ?_) (fun hc => ?_))
        · simp only [pkb_and, Bool.and_eq_true, decide_eq_true_eq] at hc
          have hc' : s.held.length = name.length + 2 ∧ stopN r = true := ⟨by omega, hc.2⟩
          rw [if_pos hc']
          clear hc
          obtain ⟨sure, held, tail, part, dash, last, over, ended⟩ := s
          obtain ⟨ps, pc, ph, ch, pt, ct⟩ := q
          dsimp only at h0 hS' hlen ⊢
          refine sgo ?_
          refine sst_slice hS' 0 fun w4 hS => ?_
          refine sgo ?_
          refine sst_int hS 0 fun w4 hS => ?_
          refine sgo ?_
          refine sst_bool hS 0 fun w4 hS => ?_
          refine sgo ?_
          refine sst_bool hS 0 fun w4 hS => ?_
          refine sgo ?_
          refine jmp_ret ?_
          (first | refine fp1 (.inl rfl) rfl rfl ?_ | refine fp2 (.inl rfl) rfl rfl rfl ?_ | refine fp3 (.inl rfl) rfl rfl rfl rfl ?_ | refine fp0 (.inr rfl) rfl ?_ | refine fp0 (.inl rfl) rfl ?_ | refine fp1 (.inr rfl) rfl rfl ?_)
          replace hS : Sep w0 w4 (pOwn b [str name, int wh, .slice ps sure.length pc, .slice none 0 0, .slice pt tail.length ct, int part, int dash, i32 r, .bool true, .bool true, .bool true] ::
            pRow 1 ps sure.length pc (rs32 sure) :: pRow 1 ph held.length ch (rs32 held) :: pRow 1 pt tail.length ct (rs32 tail) :: cs) := hS
          refine ⟨⟨ps, pc, none, 0, pt, ct⟩, ?_⟩
          exact ((((hS.drop 2).nilRow 1).front 3 rfl).front 1 rfl |>.front 3 rfl).front 3 rfl
        · simp only [pkb_and, Bool.and_eq_false_iff, decide_eq_false_iff_not] at hc
          have hc' : ¬ (s.held.length = name.length + 2 ∧ stopN r = true) := fun h => hc.elim (fun k => k (by omega)) fun k => by rw [h.2] at k; cases k
          rw [if_neg hc']
          clear hc
          refine sgo ?_
          refine sst_slice hS' 0 fun w4 hS => ?_
          replace hS : Sep w0 w4 (scPlots b name wh { s with held := [] } ⟨q.ps, q.cs, none, 0, q.pt, q.ct⟩ (pRow 1 q.ph s.held.length q.ch (rs32 s.held) :: cs)) := by
            replace hS : Sep w0 w4 (pOwn b [str name, int wh, .slice q.ps s.sure.length q.cs, .slice none 0 0, .slice q.pt s.tail.length q.ct, int s.part, int s.dash, i32 s.last, .bool s.over, .bool s.ended, .bool true] ::
              pRow 1 q.ps s.sure.length q.cs (rs32 s.sure) :: pRow 1 q.ph s.held.length q.ch (rs32 s.held) :: pRow 1 q.pt s.tail.length q.ct (rs32 s.tail) :: cs) := hS
            exact (((((hS.nilRow 1).front 3 rfl).front 4 rfl).front 2 rfl).front 4 rfl).front 4 rfl
          refine sgo ?_
          refine wcloop (X := Nat) (fun i => [(0, ptrAt (pb b) 0), (1, i32 r), (91, .slice q.ph s.held.length q.ch), (92, int s.held.length), (93, int i)])
            (fun i wr => i ≤ s.held.length ∧ ∃ q', Sep w0 wr (scPlots b name wh ((s.held.take i).foldl (contR wh) { s with held := [] }) q' (pRow 1 q.ph s.held.length q.ch (rs32 s.held) :: cs)))
            (fun i => s.held.length - i) 0 ⟨rfl, rfl, rfl, rfl, rfl, trivial⟩ ⟨Nat.zero_le _, _, hS⟩ ?_
          clear hS hS'
          rintro i wr ρ ⟨hil, q', hS⟩
          have hSr := (hS.row 4 rfl).sg
          have hph : i < s.held.length → ∃ a, q.ph = some a := fun h => hSr.some (by rw [rs32_length]; omega)
          refine sgo ?_
          (show WC _ _ _ _ _ _ _; first | refine WC_dec rfl (fun hc => ?_) (fun hc => ?_) | refine WC_cond rfl (fun hc => ?_) (fun hc => ?_))
          · have hlt : i < s.held.length := by omega
            have hx : s.held[i]? = some s.held[i] := List.getElem?_eq_getElem hlt
            have hcell := rs32_get hx
            have hgx := g2 _ (List.getElem_mem hlt)
            have hps := hph hlt
            have hcc := hcont _ q' s.held[i] wr _ (hfold i hil) hgx hS
            have hnext : contR wh ((s.held.take i).foldl (contR wh) { s with held := [] }) s.held[i] = (s.held.take (i + 1)).foldl (contR wh) { s with held := [] } := by
              rw [List.take_add_one, hx, List.foldl_append]; rfl
            rw [hnext] at hcc
            generalize s.held[i] = x at *
            clear hc hph hnext
            refine sgo ?_
            refine wlcall hcc ?_
            rintro _ w6 ⟨q6, hS6⟩
            refine sgo ?_
            exact ⟨i + 1, ⟨rfl, rfl, rfl, rfl, rfl, trivial⟩, ⟨hlt, q6, hS6⟩, (by (try dsimp only); omega)⟩
          · obtain rfl : i = s.held.length := by omega
            rw [List.take_length] at hS
            refine sgo ?_
            refine WC_goto ?_
            refine jmp_goto ⟨q', ⟨rfl, rfl, trivial⟩, ⟨h0, hgf, hc'⟩, ?_⟩
            exact hS.drop 4
  · clear hS hgoes hfold h0ok
    rintro q w1 ρ ⟨⟨h0, hgf, hc'⟩, hS⟩
    rw [if_neg h0, if_neg (by simp [hgf]), if_neg hc']
    have hok := ok_conts (wh := wh) (n := n) s.held { s with held := [] } n ⟨by show s.sure.length + 0 ≤ n; omega, ho.2, ho.3, ho.4, ho.5, ho.6.1, fun x hx => by simp at hx, ho.6.2.2⟩ g2 (Nat.le_refl _) (by show s.sure.length + 0 + s.held.length ≤ n; omega)
    generalize s.held.foldl (contR wh) { s with held := [] } = s2 at *
    clear h0 hgf hc' hlen g2 ho c1
    change s2.held = [] at c2
    have hc1 := hcont s2
    unfold firstS
    have hlen := hok.1
    have hS' := hS
    unfold scPlots at hS'
    obtain ⟨sure, held, tail, part, dash, last, over, ended⟩ := s2
    obtain ⟨ps, pc, ph, ch, pt, ct⟩ := q
    dsimp only at c2 hS' hlen ⊢
    subst c2
    refine sgo ?_
    (show WC _ _ _ _ _ _ _; first | refine WC_dec rfl (fun hc => ?_) (fun hc => ?_) | refine WC_cond rfl (fun hc => ?_) (fun hc => ?_))
    · simp only [pkb_and, Bool.and_eq_true, decide_eq_true_eq] at hc
      have hc' : r = 60 ∧ wh ≠ 4 ∧ part ≠ 2 := by omega
      rw [if_pos hc']
      clear hc
      refine sgo ?_
      refine sb1i hS' fun b2 w2 hS => ?_
      refine sgo ?_
      refine sapp hS 3 (hS.own 0 rfl).sg (fun p' c' w3 hS => ?_) (hb := by simp only [List.length_nil]; omega)
      replace hS := hS.tail
      refine sgo ?_
      refine sst_slice hS 0 fun w4 hS => ?_
      refine sgo ?_
      (first | refine fp1 (.inl rfl) rfl rfl ?_ | refine fp2 (.inl rfl) rfl rfl rfl ?_ | refine fp3 (.inl rfl) rfl rfl rfl rfl ?_ | refine fp0 (.inr rfl) rfl ?_ | refine fp0 (.inl rfl) rfl ?_ | refine fp1 (.inr rfl) rfl rfl ?_)
      exact ⟨⟨ps, pc, p', c', pt, ct⟩, hS⟩
    · simp only [pkb_and, Bool.and_eq_false_iff, decide_eq_false_iff_not] at hc
      have hc' : ¬ (r = 60 ∧ wh ≠ 4 ∧ part ≠ 2) := by omega
      rw [if_neg hc']
      clear hc hS'
      refine sgo ?_
      refine wlcall (hc1 _ r _ _ hok hr hS) ?_
      rintro _ w2 ⟨q2, hS⟩
      refine sgo ?_
      (first | refine fp1 (.inl rfl) rfl rfl ?_ | refine fp2 (.inl rfl) rfl rfl rfl ?_ | refine fp3 (.inl rfl) rfl rfl rfl rfl ?_ | refine fp0 (.inr rfl) rfl ?_ | refine fp0 (.inl rfl) rfl ?_ | refine fp1 (.inr rfl) rfl rfl ?_)
      exact ⟨q2, hS⟩
end Go.Proofs.YtkclldfejembnaaDoor

/-
  Loops over functions, with memory in pieces.
-/
set_option linter.unusedSimpArgs false
set_option linter.unusedVariables false
set_option linter.unnecessarySimpa false
namespace Go.Sv
open Go Go.RowKit
def pLoop (l : Nat) (r : Loop) : Plot where
  foot := [l]
  ok w := LoopAt w l r
  view := (none, [])
  loc _ _ h hb := (hb l (by simp)).trans h
  lt _ h x hx := by rw [List.mem_singleton.1 hx]; exact h.lt
  sg _ _ := .inl rfl
def pDef (D : Nat) : Plot where
  foot := [D]
  ok w := NoDef w D
  view := (none, [])
  loc _ _ h hb := (hb D (by simp)).trans h
  lt _ h x hx := by rw [List.mem_singleton.1 hx]; exact h.lt
  sg _ _ := .inl rfl
section
variable {w0 w w' : World} {cs : List Plot} {l D i : Nat} {r r' : Loop}
theorem Sep.loop (h : Sep w0 w cs) (hf : Frm w w') (hL : LoopAt w' l r) (hN : NoDef w' D) (hl : w.heap.size ≤ l) (hD : w.heap.size ≤ D) (hne : l ≠ D) : Sep w0 w' (pLoop l r :: pDef D :: cs) := by
  refine h.seq (ds := [pLoop l r, pDef D]) ⟨hf, ?_, ?_, ?_⟩
  · intro c hc
    rcases List.mem_cons.1 hc with rfl | hc
    · exact hL
    · rw [List.mem_singleton.1 hc]; exact hN
  · intro c hc x hx
    rcases List.mem_cons.1 hc with rfl | hc
    · rw [List.mem_singleton.1 hx]; exact hl
    · rw [List.mem_singleton.1 hc] at hx; rw [List.mem_singleton.1 hx]; exact hD
  · rw [List.pairwise_cons]
    refine ⟨fun b hb x hx hx' => ?_, List.pairwise_singleton _ _⟩
    rw [List.mem_singleton.1 hb] at hx'
    rw [List.mem_singleton.1 hx] at hx'
    exact hne (List.mem_singleton.1 hx')
theorem Sep.loopAt (h : Sep w0 w cs) (i : Nat) (hi : cs[i]? = some (pLoop l r)) : LoopAt w l r := h.at (c := pLoop l r) i hi
theorem Sep.noDef (h : Sep w0 w cs) (i : Nat) (hi : cs[i]? = some (pDef D)) : NoDef w D := h.at (c := pDef D) i hi
theorem Sep.turnLoop (h : Sep w0 w cs) (i : Nat) (hi : cs[i]? = some (pLoop l r)) (hl : Le [l] w w') (hL : LoopAt w' l r') : Sep w0 w' (cs.set i (pLoop l r')) :=
  h.upd i hi (lm_own hl) hL
/-- a piece that is given away -/
theorem Sep.lose {c : Plot} (h : Sep w0 w (c :: cs)) (hl : Le c.foot w w') : Sep w0 w' cs := by
  have hp := h.apart
  rw [List.pairwise_cons] at hp
  exact h.tail.le hl (fun d hd x hx hm => hp.1 d hd x hm hx) (h.low _ List.mem_cons_self)
theorem Sep.undef (h : Sep w0 w (pDef D :: cs)) : Sep w0 (w.putObj D (.deferred none)) cs := h.lose (le_putObj w D _)
end
end Go.Sv

/- This seat's function types as instances (made by a program of ours). -/
namespace Go.Proofs.YtkclldfejembnaaDoor
open Go Go.Sv
instance : Agg Tryd.prog 1 false := ⟨_, Tryd.underlying1, rfl⟩
instance : Inf Tryd.prog 1 (.nilFunc) 1 8 := ⟨by kernel_rfl⟩
instance : Agg Tryd.prog 22 false := ⟨_, Tryd.underlying22, rfl⟩
instance : Inf Tryd.prog 22 (.nilFunc) 1 8 := ⟨by kernel_rfl⟩
instance : Agg Tryd.prog 24 false := ⟨_, Tryd.underlying24, rfl⟩
instance : Inf Tryd.prog 24 (.nilFunc) 1 8 := ⟨by kernel_rfl⟩
instance : Agg Tryd.prog 26 false := ⟨_, Tryd.underlying26, rfl⟩
instance : Inf Tryd.prog 26 (.nilFunc) 1 8 := ⟨by kernel_rfl⟩
instance : Agg Tryd.prog 27 false := ⟨_, Tryd.underlying27, rfl⟩
instance : Inf Tryd.prog 27 (.nilFunc) 1 8 := ⟨by kernel_rfl⟩
instance : Agg Tryd.prog 28 false := ⟨_, Tryd.underlying28, rfl⟩
instance : Inf Tryd.prog 28 (.nilFunc) 1 8 := ⟨by kernel_rfl⟩
instance : Agg Tryd.prog 29 false := ⟨_, Tryd.underlying29, rfl⟩
instance : Inf Tryd.prog 29 (.nilFunc) 1 8 := ⟨by kernel_rfl⟩
instance : Agg Tryd.prog 33 false := ⟨_, Tryd.underlying33, rfl⟩
instance : Inf Tryd.prog 33 (.nilFunc) 1 8 := ⟨by kernel_rfl⟩
instance : Agg Tryd.prog 35 false := ⟨_, Tryd.underlying35, rfl⟩
instance : Inf Tryd.prog 35 (.nilFunc) 1 8 := ⟨by kernel_rfl⟩
instance : Agg Tryd.prog 36 false := ⟨_, Tryd.underlying36, rfl⟩
instance : Inf Tryd.prog 36 (.nilFunc) 1 8 := ⟨by kernel_rfl⟩
instance : Agg Tryd.prog 37 false := ⟨_, Tryd.underlying37, rfl⟩
instance : Inf Tryd.prog 37 (.nilFunc) 1 8 := ⟨by kernel_rfl⟩
instance : Agg Tryd.prog 43 false := ⟨_, Tryd.underlying43, rfl⟩
instance : Inf Tryd.prog 43 (.nilFunc) 1 8 := ⟨by kernel_rfl⟩
instance : Agg Tryd.prog 44 false := ⟨_, Tryd.underlying44, rfl⟩
instance : Inf Tryd.prog 44 (.nilFunc) 1 8 := ⟨by kernel_rfl⟩
instance : Agg Tryd.prog 45 false := ⟨_, Tryd.underlying45, rfl⟩
instance : Inf Tryd.prog 45 (.nilFunc) 1 8 := ⟨by kernel_rfl⟩
instance : Agg Tryd.prog 46 false := ⟨_, Tryd.underlying46, rfl⟩
instance : Inf Tryd.prog 46 (.nilFunc) 1 8 := ⟨by kernel_rfl⟩
instance : Agg Tryd.prog 47 false := ⟨_, Tryd.underlying47, rfl⟩
instance : Inf Tryd.prog 47 (.nilFunc) 1 8 := ⟨by kernel_rfl⟩
instance : Agg Tryd.prog 48 false := ⟨_, Tryd.underlying48, rfl⟩
instance : Inf Tryd.prog 48 (.nilFunc) 1 8 := ⟨by kernel_rfl⟩
instance : Agg Tryd.prog 49 false := ⟨_, Tryd.underlying49, rfl⟩
instance : Inf Tryd.prog 49 (.nilFunc) 1 8 := ⟨by kernel_rfl⟩
instance : Agg Tryd.prog 50 false := ⟨_, Tryd.underlying50, rfl⟩
instance : Inf Tryd.prog 50 (.nilFunc) 1 8 := ⟨by kernel_rfl⟩
instance : Agg Tryd.prog 51 false := ⟨_, Tryd.underlying51, rfl⟩
instance : Inf Tryd.prog 51 (.nilFunc) 1 8 := ⟨by kernel_rfl⟩
instance : Agg Tryd.prog 53 false := ⟨_, Tryd.underlying53, rfl⟩
instance : Inf Tryd.prog 53 (.nilFunc) 1 8 := ⟨by kernel_rfl⟩
instance : Agg Tryd.prog 54 false := ⟨_, Tryd.underlying54, rfl⟩
instance : Inf Tryd.prog 54 (.nilFunc) 1 8 := ⟨by kernel_rfl⟩
instance : Agg Tryd.prog 55 false := ⟨_, Tryd.underlying55, rfl⟩
instance : Inf Tryd.prog 55 (.nilFunc) 1 8 := ⟨by kernel_rfl⟩
instance : Agg Tryd.prog 57 false := ⟨_, Tryd.underlying57, rfl⟩
instance : Inf Tryd.prog 57 (.nilFunc) 1 8 := ⟨by kernel_rfl⟩
instance : Agg Tryd.prog 59 false := ⟨_, Tryd.underlying59, rfl⟩
instance : Inf Tryd.prog 59 (.nilFunc) 1 8 := ⟨by kernel_rfl⟩
instance : Agg Tryd.prog 60 false := ⟨_, Tryd.underlying60, rfl⟩
instance : Inf Tryd.prog 60 (.nilFunc) 1 8 := ⟨by kernel_rfl⟩
instance : Agg Tryd.prog 61 false := ⟨_, Tryd.underlying61, rfl⟩
instance : Inf Tryd.prog 61 (.nilFunc) 1 8 := ⟨by kernel_rfl⟩
instance : Agg Tryd.prog 62 false := ⟨_, Tryd.underlying62, rfl⟩
instance : Inf Tryd.prog 62 (.nilFunc) 1 8 := ⟨by kernel_rfl⟩
instance : Agg Tryd.prog 64 false := ⟨_, Tryd.underlying64, rfl⟩
instance : Inf Tryd.prog 64 (.nilFunc) 1 8 := ⟨by kernel_rfl⟩
instance : Agg Tryd.prog 65 false := ⟨_, Tryd.underlying65, rfl⟩
instance : Inf Tryd.prog 65 (.nilFunc) 1 8 := ⟨by kernel_rfl⟩
instance : Agg Tryd.prog 67 false := ⟨_, Tryd.underlying67, rfl⟩
instance : Inf Tryd.prog 67 (.nilFunc) 1 8 := ⟨by kernel_rfl⟩
instance : Agg Tryd.prog 71 false := ⟨_, Tryd.underlying71, rfl⟩
instance : Inf Tryd.prog 71 (.nilFunc) 1 8 := ⟨by kernel_rfl⟩
instance : Agg Tryd.prog 73 false := ⟨_, Tryd.underlying73, rfl⟩
instance : Inf Tryd.prog 73 (.nilFunc) 1 8 := ⟨by kernel_rfl⟩
instance : Agg Tryd.prog 75 false := ⟨_, Tryd.underlying75, rfl⟩
instance : Inf Tryd.prog 75 (.nilFunc) 1 8 := ⟨by kernel_rfl⟩
instance : Agg Tryd.prog 77 false := ⟨_, Tryd.underlying77, rfl⟩
instance : Inf Tryd.prog 77 (.nilFunc) 1 8 := ⟨by kernel_rfl⟩
instance : Agg Tryd.prog 82 false := ⟨_, Tryd.underlying82, rfl⟩
instance : Inf Tryd.prog 82 (.nilFunc) 1 8 := ⟨by kernel_rfl⟩
instance : Agg Tryd.prog 84 false := ⟨_, Tryd.underlying84, rfl⟩
instance : Inf Tryd.prog 84 (.nilFunc) 1 8 := ⟨by kernel_rfl⟩
instance : Agg Tryd.prog 85 false := ⟨_, Tryd.underlying85, rfl⟩
instance : Inf Tryd.prog 85 (.nilFunc) 1 8 := ⟨by kernel_rfl⟩
instance : Agg Tryd.prog 86 false := ⟨_, Tryd.underlying86, rfl⟩
instance : Inf Tryd.prog 86 (.nilFunc) 1 8 := ⟨by kernel_rfl⟩
instance : Agg Tryd.prog 87 false := ⟨_, Tryd.underlying87, rfl⟩
instance : Inf Tryd.prog 87 (.nilFunc) 1 8 := ⟨by kernel_rfl⟩
instance : Agg Tryd.prog 95 false := ⟨_, Tryd.underlying95, rfl⟩
instance : Inf Tryd.prog 95 (.nilFunc) 1 8 := ⟨by kernel_rfl⟩
instance : Agg Tryd.prog 98 false := ⟨_, Tryd.underlying98, rfl⟩
instance : Inf Tryd.prog 98 (.nilFunc) 1 8 := ⟨by kernel_rfl⟩
instance : Agg Tryd.prog 108 false := ⟨_, Tryd.underlying108, rfl⟩
instance : Inf Tryd.prog 108 (.nilFunc) 1 8 := ⟨by kernel_rfl⟩
end Go.Proofs.YtkclldfejembnaaDoor

/-
  General steps: what is skipped, what is written, loops over functions (out of several texts).
-/
set_option linter.unusedSimpArgs false
set_option linter.unusedVariables false
set_option linter.unnecessarySimpa false
namespace Go.Sv
open Go Go.RowKit
/-- a guarded operation whose guard says no -/
theorem wlskipg {P : Program} {n : Nat} {ds : Ctx} {ops : Array Oper} {Q : Exit → Ctx → Env → World → Prop} {rest : List Oper} {σ : GE} {w : World} {d : Nat} {op : Op} {ty : TypeId} {pos : String} {af : Array Edge} {j dj : Nat} {want b c : Bool} (v : Value)
    (h : WL P n ds ops Q rest (real (updG σ d ⟨v, false⟩)) w)
    (hj : (ops[j]?).bind (·.dst) = some dj := by rfl) (hσ : σ dj = ⟨.bool c, b⟩ := by rfl) (hgt : (b && (c == want)) = false) :
    WL P n ds ops Q (⟨some d, op, ty, pos, af, some (j, want)⟩ :: rest) (real σ) w := by
  have hw := wanted_real (ops := ops) (o := ⟨some d, op, ty, pos, af, some (j, want)⟩) rfl hj hσ
  rw [hgt] at hw
  refine WL_skip hw ?_
  rw [← real_upd] at h
  exact h
/-- a store into a block of one's own -/
theorem y_sst {P : Program} {σ : Env} {w0 w : World} {cs : List Plot} {ty t : TypeId} {pos : String} {af : Array Edge} {g : Option (Nat × Bool)} {x y : Operand} {zv v : Value} {size bytes b j : Nat} {l : List Value} [hi : Inf P t zv size bytes] (hS : Sep w0 w cs) (i : Nat) (hc : cs[i]? = some (pOwn b l)) (hx : evl σ x = ptrAt (pb b) j) (hy : evl σ y = v) (hv : v.cells.size = size) (hk : j + size ≤ l.length) (h1 : ∀ u ∈ v.cells.toList, u.oneCell' = true) :
    ∃ w', Y P σ ⟨none, .store t x y, ty, pos, af, g⟩ w undef w' ∧ Sep w0 w' (cs.set i (pOwn b (l.take j ++ v.cells.toList ++ l.drop (j + size)))) := by
  obtain ⟨w', hr, h2, h3⟩ := run_store_own (P := P) (t := t) (hS.own i hc) hv hk h1
  refine ⟨w', Y.skip ?_, hS.upd i hc (lm_own h3) h2⟩
  simp only [execOp, hx, hy]
  rw [Sem.run_bind, hr]
  rfl
/-- all blocks of a list as they were -/
def pKeep (w1 : World) (F : List Nat) : Plot where
  foot := F.filter fun b => decide (b < w1.heap.size)
  ok w := ∀ b ∈ F, b < w1.heap.size → w.heap[b]? = w1.heap[b]?
  view := (none, [])
  loc _ _ h hb := fun b hF hlt => (hb b (List.mem_filter.2 ⟨hF, by simpa using hlt⟩)).trans (h b hF hlt)
  lt w h x hx := by
    obtain ⟨h1, h2⟩ := List.mem_filter.1 hx
    have h3 : x < w1.heap.size := by simpa using h2
    have h4 := h x h1 h3
    rw [Array.getElem?_eq_getElem h3] at h4
    exact (Array.getElem?_eq_some_iff.1 h4).1
  sg _ _ := .inl rfl
def feet (cs : List Plot) : List Nat := cs.flatMap Plot.foot
/-- the blocks that belong to no piece -/
def others (w0 w1 : World) (cs : List Plot) : List Nat := (List.range w1.heap.size).filter fun x => decide (w0.heap.size ≤ x) && !(decide (x ∈ feet cs))
section
variable {w0 w1 w2 w w' : World} {cs ds : List Plot} {B : Nat}
theorem Sep.keep (h : Sep w0 w1 cs) : Sep w0 w1 (pKeep w1 (others w0 w1 cs) :: cs) := by
  refine ⟨h.frm, ?_, ?_, ?_⟩
  · intro c hc
    rcases List.mem_cons.1 hc with rfl | hc
    · exact fun _ _ _ => rfl
    · exact h.ok c hc
  · intro c hc x hx
    rcases List.mem_cons.1 hc with rfl | hc
    · have := (List.mem_filter.1 (List.mem_filter.1 hx).1).2
      simp only [Bool.and_eq_true, decide_eq_true_eq] at this
      exact this.1
    · exact h.low c hc x hx
  · rw [List.pairwise_cons]
    refine ⟨fun c hc x hx hx' => ?_, h.apart⟩
    have := (List.mem_filter.1 (List.mem_filter.1 hx).1).2
    simp only [Bool.and_eq_true, Bool.not_eq_true', decide_eq_false_iff_not] at this
    exact this.2 (List.mem_flatMap.2 ⟨c, hc, hx'⟩)
theorem Sep.same (h : Sep w0 w1 cs) (hs : Same B w1 w2) (h0 : w0.heap.size ≤ B) (hB : ∀ x ∈ feet cs, x < B) : Sep w0 w2 cs :=
  ⟨⟨hs.os.trans h.frm.os, hs.tape.trans h.frm.tape, hs.output.trans h.frm.output, Nat.le_trans h0 hs.size, fun k hk => (hs.block k (Nat.lt_of_lt_of_le hk h0)).trans (h.frm.block k hk)⟩,
    fun c hc => c.loc w1 w2 (h.ok c hc) fun x hx => hs.block x (hB x (List.mem_flatMap.2 ⟨c, hc, hx⟩)), h.low, h.apart⟩
theorem Same.mono {B B' : Nat} (h : Same B w w') (hb : B' ≤ B) : Same B' w w' := ⟨h.os, h.tape, h.output, Nat.le_trans hb h.size, fun k hk => h.block k (Nat.lt_of_lt_of_le hk hb)⟩
end
def colls (Ds : List Nat) : List Deferred := Ds.map fun D => { target := .collected D, args := #[] }
theorem loop_fam {P : Program} {n : Nat} {fn : FuncId} {dd : List Deferred} {σ : GE} {ps : List Tmp} {a b : Code} {D l : Nat} {w : World} (hL : LoopAt w l (recOf P n fn dd σ ps a b D .ready none)) : ∃ rc : LoopState → Option Code → Loop, rc = recOf P n fn dd σ ps a b D ∧ LoopAt w l (rc .ready none) := ⟨_, rfl, hL⟩
end Go.Sv

/-
  Package raw: what is asked of a scanner; New, Put, Take, End.
-/
set_option linter.unusedSimpArgs false
set_option linter.unusedVariables false
set_option linter.unnecessarySimpa false
namespace Go.Sv
open Go Go.RowKit
section
variable {P : Program} {σ : Env} {w : World} {d : Option Tmp} {ty t t' e : TypeId} {pos : String} {af : Array Edge} {g : Option (Nat × Bool)} {x y : Operand} {p : Option Addr}
theorem y_pnn [hu : Und P t (.pointer e)] (hx : evl σ x = .pointer p) (hy : evl σ y = .pointer none) : Y P σ ⟨d, .binOp .neq t x y t', ty, pos, af, g⟩ w (.bool (!p.isNone)) w := by
  refine Y.val ?_
  have h : ∀ k : Nat, (Op.equalIn (k + 1) t (.pointer p) (.pointer none)).run P w = .ok p.isNone w := fun k => by
    cases p <;> simp [Op.equalIn, run_underlying hu.ok]
  simp only [execOp, hx, hy]
  simp [eqGuard, binOp, Op.equal, Op.maxDepth, h 9999]
/-- four results that lie in cells -/
theorem fpc4 {n : Nat} {fn : Func} {R : Value → World → Prop} {t1 t2 t3 t4 : Nat} {y1 y2 y3 y4 : TypeId} {ex : Exit} {b1 b2 b3 b4 : Nat} {v1 v2 v3 v4 : Value} {ds : Ctx} (hex : ex = .ret ∨ ex = .normal) (hr : fn.results = #[.cell t1 y1, .cell t2 y2, .cell t3 y3, .cell t4 y4])
    (ht : (Nat.blt t1 n && Nat.blt t2 n && Nat.blt t3 n && Nat.blt t4 n) = true) (hp : σ t1 = .pointer (pb b1) ∧ σ t2 = .pointer (pb b2) ∧ σ t3 = .pointer (pb b3) ∧ σ t4 = .pointer (pb b4)) (ho : Own w b1 [v1] ∧ Own w b2 [v2] ∧ Own w b3 [v3] ∧ Own w b4 [v4])
    [h1 : Agg P y1 false] [h2 : Agg P y2 false] [h3 : Agg P y3 false] [h4 : Agg P y4 false] (h : R (.tuple #[v1, v2, v3, v4]) w) (hd : ds.ds = [] := by rfl) : fpost P n fn R ex ds σ w := by
  simp only [Bool.and_eq_true] at ht
  obtain ⟨⟨⟨ht1, ht2⟩, ht3⟩, ht4⟩ := ht
  obtain ⟨p1, p2, p3, p4⟩ := hp
  obtain ⟨⟨T1, o1⟩, ⟨T2, o2⟩, ⟨T3, o3⟩, ⟨T4, o4⟩⟩ := ho
  refine fp_of hex hd ?_ h
  have g : ∀ {t b : Nat}, Nat.blt t n = true → σ t = .pointer (pb b) → (act n ds.ds σ).tmps[t]?.getD undef = .pointer (pb b) := fun {t b} ht hp => by
    have : (act n ds.ds σ).tmps.getD t undef = .pointer (pb b) := by rw [act_getD ht]; exact hp
    simpa using this
  have c1 : w.cell? ⟨b1, 0, none⟩ = some v1 := by rw [cell_of_row w b1 0 _ _ _ o1]; rfl
  have c2 : w.cell? ⟨b2, 0, none⟩ = some v2 := by rw [cell_of_row w b2 0 _ _ _ o2]; rfl
  have c3 : w.cell? ⟨b3, 0, none⟩ = some v3 := by rw [cell_of_row w b3 0 _ _ _ o3]; rfl
  have c4 : w.cell? ⟨b4, 0, none⟩ = some v4 := by rw [cell_of_row w b4 0 _ _ _ o4]; rfl
  simp [results, hr, g ht1 p1, g ht2 p2, g ht3 p3, g ht4 p4, asAddr, pb, loadVar, run_isAgg (P := P) (t := y1), run_isAgg (P := P) (t := y2), run_isAgg (P := P) (t := y3), run_isAgg (P := P) (t := y4), c1, c2, c3, c4]
end
end Go.Sv
namespace Go.Proofs.YtkclldfejembnaaDoor
open Go Go.Sv Go.RowKit

/-- a scanner that no call made -/
def Unm (w : World) (x : Value) : Prop := x = .pointer none ∨ ∃ (b : Nat) (a0 a1 a2 a3 a4 a5 a6 a7 a8 a9 : Value), x = ptrAt (pb b) 0 ∧ Own w b [a0, a1, a2, a3, a4, a5, a6, a7, a8, a9, .bool false]
theorem Unm.frm {w w' : World} {x : Value} (h : Unm w x) (hf : Frm w w') : Unm w' x := by
  rcases h with h | ⟨b, a0, a1, a2, a3, a4, a5, a6, a7, a8, a9, h1, h2⟩
  · exact .inl h
  · exact .inr ⟨b, a0, a1, a2, a3, a4, a5, a6, a7, a8, a9, h1, h2.frm hf⟩
theorem is_unm (x : Value) (w : World) (h : Unm w x) : PureC Tryd.prog 29 #[x] w (.bool false) := by
  rcases h with rfl | ⟨b, a0, a1, a2, a3, a4, a5, a6, a7, a8, a9, rfl, ho⟩
  · refine enter (l := [.pointer none]) Tryd.func29 rfl Tryd.ntmps29 (by kernel_rfl) rfl ?_
    refine sgo ?_
    refine wl ?_ (y_pnn rfl rfl)
    refine sgo ?_
    refine wlskipg (.pointer none) ?_ (hgt := rfl)
    refine wlskipg (.pointer none) ?_ (hgt := rfl)
    refine wlskipg (.bool false) ?_ (hgt := rfl)
    refine sgo ?_
    (first | refine fp1 (.inl rfl) rfl rfl ?_ | refine fp2 (.inl rfl) rfl rfl rfl ?_ | refine fp3 (.inl rfl) rfl rfl rfl rfl ?_ | refine fp0 (.inr rfl) rfl ?_ | refine fp0 (.inl rfl) rfl ?_ | refine fp1 (.inr rfl) rfl rfl ?_); refine ⟨?_, by (first | exact Frm.refl _ | assumption | exact Go.Sv.Sep.frm (by assumption) | (refine Frm.trans ?_ (by assumption); first | exact Frm.refl _ | assumption))⟩; (try simp only [realB, rv_true, Nat.reduceBEq, cond_true, cond_false, entG, real_lif, updGL])
    all_goals rfl
  · have hsg := ho.sg
    refine enter (l := [ptrAt (pb b) 0]) Tryd.func29 rfl Tryd.ntmps29 (by kernel_rfl) rfl ?_
    refine sgo ?_
    refine wl ?_ (y_pnn (p := pb b) rfl rfl)
    refine sgo ?_
    (first | refine fp1 (.inl rfl) rfl rfl ?_ | refine fp2 (.inl rfl) rfl rfl rfl ?_ | refine fp3 (.inl rfl) rfl rfl rfl rfl ?_ | refine fp0 (.inr rfl) rfl ?_ | refine fp0 (.inl rfl) rfl ?_ | refine fp1 (.inr rfl) rfl rfl ?_); refine ⟨?_, by (first | exact Frm.refl _ | assumption | exact Go.Sv.Sep.frm (by assumption) | (refine Frm.trans ?_ (by assumption); first | exact Frm.refl _ | assumption))⟩; (try simp only [realB, rv_true, Nat.reduceBEq, cond_true, cond_false, entG, real_lif, updGL])
    all_goals rfl
theorem is_ok (b : Nat) (name : List UInt8) (wh : Nat) (s : Sc) (q : ScP) (w0 w : World) (cs : List Plot) (hS : Sep w0 w (scPlots b name wh s q cs)) : PureC Tryd.prog 29 #[ptrAt (pb b) 0] w (.bool true) := by
  unfold scPlots at hS
  refine enter (l := [ptrAt (pb b) 0]) Tryd.func29 rfl Tryd.ntmps29 (by kernel_rfl) rfl ?_
  refine sgo ?_
  refine wl ?_ (y_pnn (p := pb b) rfl rfl)
  refine sgo ?_
  (first | refine fp1 (.inl rfl) rfl rfl ?_ | refine fp2 (.inl rfl) rfl rfl rfl ?_ | refine fp3 (.inl rfl) rfl rfl rfl rfl ?_ | refine fp0 (.inr rfl) rfl ?_ | refine fp0 (.inl rfl) rfl ?_ | refine fp1 (.inr rfl) rfl rfl ?_); refine ⟨?_, by (first | exact Frm.refl _ | assumption | exact Go.Sv.Sep.frm (by assumption) | (refine Frm.trans ?_ (by assumption); first | exact Frm.refl _ | assumption))⟩; (try simp only [realB, rv_true, Nat.reduceBEq, cond_true, cond_false, entG, real_lif, updGL])
  all_goals rfl
theorem validRune_ok (r : Nat) (hg : Good r) (w : World) : PureC Tryd.prog 30 #[i32 r] w (.bool true) := by
  have h1 := hg.1
  have h2 := hg.2
  refine enter (l := [i32 r]) Tryd.func30 rfl Tryd.ntmps30 (by kernel_rfl) rfl ?_
  refine sgo ?_
  refine WC_cond rfl (fun hc => ?_) (fun hc => ?_)
  · refine sgo ?_
    (first | refine fp1 (.inl rfl) rfl rfl ?_ | refine fp2 (.inl rfl) rfl rfl rfl ?_ | refine fp3 (.inl rfl) rfl rfl rfl rfl ?_ | refine fp0 (.inr rfl) rfl ?_ | refine fp0 (.inl rfl) rfl ?_ | refine fp1 (.inr rfl) rfl rfl ?_); refine ⟨?_, by (first | exact Frm.refl _ | assumption | exact Go.Sv.Sep.frm (by assumption) | (refine Frm.trans ?_ (by assumption); first | exact Frm.refl _ | assumption))⟩; (try simp only [realB, rv_true, Nat.reduceBEq, cond_true, cond_false, entG, real_lif, updGL])
  · simp only [pkb_and, Bool.and_eq_false_iff, decide_eq_false_iff_not] at hc
    refine sgo ?_
    refine WC_cond rfl (fun hc => ?_) (fun hc => ?_)
    · refine sgo ?_
      (first | refine fp1 (.inl rfl) rfl rfl ?_ | refine fp2 (.inl rfl) rfl rfl rfl ?_ | refine fp3 (.inl rfl) rfl rfl rfl rfl ?_ | refine fp0 (.inr rfl) rfl ?_ | refine fp0 (.inl rfl) rfl ?_ | refine fp1 (.inr rfl) rfl rfl ?_); refine ⟨?_, by (first | exact Frm.refl _ | assumption | exact Go.Sv.Sep.frm (by assumption) | (refine Frm.trans ?_ (by assumption); first | exact Frm.refl _ | assumption))⟩; (try simp only [realB, rv_true, Nat.reduceBEq, cond_true, cond_false, entG, real_lif, updGL])
    · rename_i hc2
      simp only [pkb_and, Bool.and_eq_false_iff, decide_eq_false_iff_not] at hc
      exfalso; omega

set_option maxHeartbeats 1000000 in
theorem rawPut_ok (b : Nat) (name : List UInt8) (wh : Nat) (s : Sc) (q : ScP) (r n : Nat) (hr : Good r) (ho : s.Ok n) (hn : n < 1073741824) (hb : name.length ≤ 1073741824) (hv : s.over = false) (w0 w : World) (cs : List Plot) (hS : Sep w0 w (scPlots b name wh s q cs)) :
    CallsR Tryd.prog 15 #[ptrAt (pb b) 0, i32 r] w fun v w' => ∃ q', v = .tuple #[.bool (putR name wh s r).over, int 0] ∧ Sep w0 w' (scPlots b name wh (putR name wh s r) q' cs) := by
  have hput := fun w hS => put_ok b name wh s q r n hr ho hn hb w0 w cs hS
  refine enter (l := [ptrAt (pb b) 0, i32 r]) Tryd.func15 rfl Tryd.ntmps15 (by kernel_rfl) rfl ?_
  refine sgo ?_
  refine wlpure (is_ok b name wh s q w0 _ cs hS) fun w1 hf1 => ?_
  replace hS := hS.grow hf1
  have hS' := hS
  unfold scPlots at hS'
  rw [hv] at hS'
  refine sgo ?_
  refine wlpure (validRune_ok r hr _) fun w2 hf2 => ?_
  replace hS := hS.grow hf2
  clear hS'
  refine sgo ?_
  refine wlcall (hput _ hS) ?_
  rintro _ w3 ⟨q3, hS⟩
  have hS' := hS
  unfold scPlots at hS'
  refine sgo ?_
  (first | refine fp1 (.inl rfl) rfl rfl ?_ | refine fp2 (.inl rfl) rfl rfl rfl ?_ | refine fp3 (.inl rfl) rfl rfl rfl rfl ?_ | refine fp0 (.inr rfl) rfl ?_ | refine fp0 (.inl rfl) rfl ?_ | refine fp1 (.inr rfl) rfl rfl ?_)
  exact ⟨q3, rfl, hS⟩
theorem rawPut_unm (x : Value) (r : Int) (w : World) (h : Unm w x) : PureC Tryd.prog 15 #[x, i32 r] w (.tuple #[.bool false, int 2]) := by
  refine enter (l := [x, i32 r]) Tryd.func15 rfl Tryd.ntmps15 (by kernel_rfl) rfl ?_
  refine sgo ?_
  refine wlpure (is_unm x _ h) fun w1 hf1 => ?_
  refine sgo ?_
  (first | refine fp1 (.inl rfl) rfl rfl ?_ | refine fp2 (.inl rfl) rfl rfl rfl ?_ | refine fp3 (.inl rfl) rfl rfl rfl rfl ?_ | refine fp0 (.inr rfl) rfl ?_ | refine fp0 (.inl rfl) rfl ?_ | refine fp1 (.inr rfl) rfl rfl ?_); refine ⟨?_, by (first | exact Frm.refl _ | assumption | exact Go.Sv.Sep.frm (by assumption) | (refine Frm.trans ?_ (by assumption); first | exact Frm.refl _ | assumption))⟩; (try simp only [realB, rv_true, Nat.reduceBEq, cond_true, cond_false, entG, real_lif, updGL])
  all_goals rfl
theorem rawTake_unm (x : Value) (w : World) (h : Unm w x) : PureC Tryd.prog 17 #[x] w (str []) := by
  refine enter (l := [x]) Tryd.func17 rfl Tryd.ntmps17 (by kernel_rfl) rfl ?_
  refine sgo ?_
  refine wlpure (is_unm x _ h) fun w1 hf1 => ?_
  refine sgo ?_
  (first | refine fp1 (.inl rfl) rfl rfl ?_ | refine fp2 (.inl rfl) rfl rfl rfl ?_ | refine fp3 (.inl rfl) rfl rfl rfl rfl ?_ | refine fp0 (.inr rfl) rfl ?_ | refine fp0 (.inl rfl) rfl ?_ | refine fp1 (.inr rfl) rfl rfl ?_); refine ⟨?_, by (first | exact Frm.refl _ | assumption | exact Go.Sv.Sep.frm (by assumption) | (refine Frm.trans ?_ (by assumption); first | exact Frm.refl _ | assumption))⟩; (try simp only [realB, rv_true, Nat.reduceBEq, cond_true, cond_false, entG, real_lif, updGL])
  all_goals rfl
theorem rawHeld_unm (x : Value) (w : World) (h : Unm w x) : PureC Tryd.prog 16 #[x] w (int 0) := by
  refine enter (l := [x]) Tryd.func16 rfl Tryd.ntmps16 (by kernel_rfl) rfl ?_
  refine sgo ?_
  refine wlpure (is_unm x _ h) fun w1 hf1 => ?_
  refine sgo ?_
  (first | refine fp1 (.inl rfl) rfl rfl ?_ | refine fp2 (.inl rfl) rfl rfl rfl ?_ | refine fp3 (.inl rfl) rfl rfl rfl rfl ?_ | refine fp0 (.inr rfl) rfl ?_ | refine fp0 (.inl rfl) rfl ?_ | refine fp1 (.inr rfl) rfl rfl ?_); refine ⟨?_, by (first | exact Frm.refl _ | assumption | exact Go.Sv.Sep.frm (by assumption) | (refine Frm.trans ?_ (by assumption); first | exact Frm.refl _ | assumption))⟩; (try simp only [realB, rv_true, Nat.reduceBEq, cond_true, cond_false, entG, real_lif, updGL])
  all_goals rfl
theorem rawEnded_unm (x : Value) (w : World) (h : Unm w x) : PureC Tryd.prog 18 #[x] w (.bool false) := by
  refine enter (l := [x]) Tryd.func18 rfl Tryd.ntmps18 (by kernel_rfl) rfl ?_
  refine sgo ?_
  refine wlpure (is_unm x _ h) fun w1 hf1 => ?_
  refine sgo ?_
  refine wlskipg (.pointer none) ?_ (hgt := rfl)
  refine wlskipg (.pointer none) ?_ (hgt := rfl)
  refine wlskipg (.bool false) ?_ (hgt := rfl)
  refine sgo ?_
  (first | refine fp1 (.inl rfl) rfl rfl ?_ | refine fp2 (.inl rfl) rfl rfl rfl ?_ | refine fp3 (.inl rfl) rfl rfl rfl rfl ?_ | refine fp0 (.inr rfl) rfl ?_ | refine fp0 (.inl rfl) rfl ?_ | refine fp1 (.inr rfl) rfl rfl ?_); refine ⟨?_, by (first | exact Frm.refl _ | assumption | exact Go.Sv.Sep.frm (by assumption) | (refine Frm.trans ?_ (by assumption); first | exact Frm.refl _ | assumption))⟩; (try simp only [realB, rv_true, Nat.reduceBEq, cond_true, cond_false, entG, real_lif, updGL])
  all_goals rfl
theorem rawRune_unm (x : Value) (w : World) (h : Unm w x) : PureC Tryd.prog 19 #[x] w (i32 0) := by
  refine enter (l := [x]) Tryd.func19 rfl Tryd.ntmps19 (by kernel_rfl) rfl ?_
  refine sgo ?_
  refine wlpure (is_unm x _ h) fun w1 hf1 => ?_
  refine sgo ?_
  (first | refine fp1 (.inl rfl) rfl rfl ?_ | refine fp2 (.inl rfl) rfl rfl rfl ?_ | refine fp3 (.inl rfl) rfl rfl rfl rfl ?_ | refine fp0 (.inr rfl) rfl ?_ | refine fp0 (.inl rfl) rfl ?_ | refine fp1 (.inr rfl) rfl rfl ?_); refine ⟨?_, by (first | exact Frm.refl _ | assumption | exact Go.Sv.Sep.frm (by assumption) | (refine Frm.trans ?_ (by assumption); first | exact Frm.refl _ | assumption))⟩; (try simp only [realB, rv_true, Nat.reduceBEq, cond_true, cond_false, entG, real_lif, updGL])
  all_goals rfl
theorem rawEnd_unm (x : Value) (w : World) (h : Unm w x) : PureC Tryd.prog 20 #[x] w (int 2) := by
  refine enter (l := [x]) Tryd.func20 rfl Tryd.ntmps20 (by kernel_rfl) rfl ?_
  refine sgo ?_
  refine wlpure (is_unm x _ h) fun w1 hf1 => ?_
  refine sgo ?_
  (first | refine fp1 (.inl rfl) rfl rfl ?_ | refine fp2 (.inl rfl) rfl rfl rfl ?_ | refine fp3 (.inl rfl) rfl rfl rfl rfl ?_ | refine fp0 (.inr rfl) rfl ?_ | refine fp0 (.inl rfl) rfl ?_ | refine fp1 (.inr rfl) rfl rfl ?_); refine ⟨?_, by (first | exact Frm.refl _ | assumption | exact Go.Sv.Sep.frm (by assumption) | (refine Frm.trans ?_ (by assumption); first | exact Frm.refl _ | assumption))⟩; (try simp only [realB, rv_true, Nat.reduceBEq, cond_true, cond_false, entG, real_lif, updGL])
  all_goals rfl
theorem rawHeld_ok (b : Nat) (name : List UInt8) (wh : Nat) (s : Sc) (q : ScP) (w0 w : World) (cs : List Plot) (hS : Sep w0 w (scPlots b name wh s q cs)) : PureC Tryd.prog 16 #[ptrAt (pb b) 0] w (int s.held.length) := by
  refine enter (l := [ptrAt (pb b) 0]) Tryd.func16 rfl Tryd.ntmps16 (by kernel_rfl) rfl ?_
  refine sgo ?_
  refine wlpure (is_ok b name wh s q w0 _ cs hS) fun w1 hf1 => ?_
  replace hS := hS.grow hf1
  unfold scPlots at hS
  refine sgo ?_
  (first | refine fp1 (.inl rfl) rfl rfl ?_ | refine fp2 (.inl rfl) rfl rfl rfl ?_ | refine fp3 (.inl rfl) rfl rfl rfl rfl ?_ | refine fp0 (.inr rfl) rfl ?_ | refine fp0 (.inl rfl) rfl ?_ | refine fp1 (.inr rfl) rfl rfl ?_); refine ⟨?_, by (first | exact Frm.refl _ | assumption | exact Go.Sv.Sep.frm (by assumption) | (refine Frm.trans ?_ (by assumption); first | exact Frm.refl _ | assumption))⟩; (try simp only [realB, rv_true, Nat.reduceBEq, cond_true, cond_false, entG, real_lif, updGL])
  all_goals rfl
set_option maxHeartbeats 1000000 in
theorem rawTake_ok (b : Nat) (name : List UInt8) (wh : Nat) (s : Sc) (q : ScP) (hg : ∀ r ∈ s.sure, Good r) (w0 w : World) (cs : List Plot) (hS : Sep w0 w (scPlots b name wh s q cs)) :
    CallsR Tryd.prog 17 #[ptrAt (pb b) 0] w fun v w' => ∃ q', v = str (s.sure.flatMap encR) ∧ Sep w0 w' (scPlots b name wh { s with sure := [] } q' cs) := by
  refine enter (l := [ptrAt (pb b) 0]) Tryd.func17 rfl Tryd.ntmps17 (by kernel_rfl) rfl ?_
  refine sgo ?_
  refine wlpure (is_ok b name wh s q w0 _ cs hS) fun w1 hf1 => ?_
  replace hS := hS.grow hf1
  unfold scPlots at hS ⊢
  refine sgo ?_
  refine wl ?_ (y_r2s (rs := s.sure) hg (hS.row 1 rfl).sg rfl)
  refine sgo ?_
  refine sst_slice hS 0 fun w4 hS => ?_
  refine sgo ?_
  (first | refine fp1 (.inl rfl) rfl rfl ?_ | refine fp2 (.inl rfl) rfl rfl rfl ?_ | refine fp3 (.inl rfl) rfl rfl rfl rfl ?_ | refine fp0 (.inr rfl) rfl ?_ | refine fp0 (.inl rfl) rfl ?_ | refine fp1 (.inr rfl) rfl rfl ?_)
  refine ⟨⟨none, 0, q.ph, q.ch, q.pt, q.ct⟩, rfl, ?_⟩
  replace hS : Sep w0 w4 (pOwn b [str name, int wh, .slice none 0 0, .slice q.ph s.held.length q.ch, .slice q.pt s.tail.length q.ct, int s.part, int s.dash, i32 s.last, .bool s.over, .bool s.ended, .bool true] ::
    pRow 1 q.ps s.sure.length q.cs (rs32 s.sure) :: pRow 1 q.ph s.held.length q.ch (rs32 s.held) :: pRow 1 q.pt s.tail.length q.ct (rs32 s.tail) :: cs) := hS
  exact ((hS.drop 1).nilRow 1).front 1 rfl
end Go.Proofs.YtkclldfejembnaaDoor

/-
  Package names: the sets' names, all of them; which names are in a set.
-/
set_option linter.unusedSimpArgs false
set_option linter.unusedVariables false
set_option linter.unnecessarySimpa false
namespace Go.Proofs.YtkclldfejembnaaDoor
open Go Go.Sv Go.RowKit

def setT0 : List UInt8 := [97, 114, 101, 97, 32, 98, 97, 115, 101, 32, 98, 114, 32, 99, 111, 108, 32, 101, 109, 98, 101, 100, 32, 104, 114, 32, 105, 109, 103, 32, 105, 110, 112, 117, 116, 32, 108, 105, 110, 107, 32, 109, 101, 116, 97, 32, 115, 111, 117, 114, 99, 101, 32, 116, 114, 97, 99, 107, 32, 119, 98, 114, 32]
def setT1 : List UInt8 := [97, 114, 101, 97, 32, 98, 97, 115, 101, 32, 98, 114, 32, 99, 111, 108, 32, 101, 109, 98, 101, 100, 32, 104, 114, 32, 105, 109, 103, 32, 105, 110, 112, 117, 116, 32, 108, 105, 110, 107, 32, 109, 101, 116, 97, 32, 115, 111, 117, 114, 99, 101, 32, 116, 114, 97, 99, 107, 32, 119, 98, 114, 32, 98, 97, 115, 101, 102, 111, 110, 116, 32, 98, 103, 115, 111, 117, 110, 100, 32, 102, 114, 97, 109, 101, 32, 107, 101, 121, 103, 101, 110, 32, 112, 97, 114, 97, 109]
def setT2 : List UInt8 := [116, 101, 120, 116, 97, 114, 101, 97, 32, 116, 105, 116, 108, 101]
def setT3 : List UInt8 := [105, 102, 114, 97, 109, 101, 32, 110, 111, 101, 109, 98, 101, 100, 32, 110, 111, 102, 114, 97, 109, 101, 115, 32, 110, 111, 115, 99, 114, 105, 112, 116, 32, 115, 116, 121, 108, 101, 32, 120, 109, 112]
def setT4 : List UInt8 := [97, 32, 98, 32, 98, 105, 103, 32, 99, 111, 100, 101, 32, 101, 109, 32, 102, 111, 110, 116, 32, 105, 32, 110, 111, 98, 114, 32, 115, 32, 115, 109, 97, 108, 108, 32, 115, 116, 114, 105, 107, 101, 32, 115, 116, 114, 111, 110, 103, 32, 116, 116, 32, 117]
def setT5 : List UInt8 := [104, 49, 32, 104, 50, 32, 104, 51, 32, 104, 52, 32, 104, 53, 32, 104, 54]
def setT6 : List UInt8 := [97, 100, 100, 114, 101, 115, 115, 32, 97, 114, 116, 105, 99, 108, 101, 32, 97, 115, 105, 100, 101, 32, 98, 108, 111, 99, 107, 113, 117, 111, 116, 101, 32, 99, 101, 110, 116, 101, 114, 32, 100, 100, 32, 100, 101, 116, 97, 105, 108, 115, 32, 100, 105, 97, 108, 111, 103, 32, 100, 105, 114, 32, 100, 105, 118, 32, 100, 108, 32, 100, 116, 32, 102, 105, 101, 108, 100, 115, 101, 116, 32, 102, 105, 103, 99, 97, 112, 116, 105, 111, 110, 32, 102, 105, 103, 117, 114, 101, 32, 102, 111, 111, 116, 101, 114, 32, 102, 111, 114, 109, 32, 104, 49, 32, 104, 50, 32, 104, 51, 32, 104, 52, 32, 104, 53, 32, 104, 54, 32, 104, 101, 97, 100, 101, 114, 32, 104, 103, 114, 111, 117, 112, 32, 104, 114, 32, 108, 105, 32, 108, 105, 115, 116, 105, 110, 103, 32, 109, 97, 105, 110, 32, 109, 101, 110, 117, 32, 110, 97, 118, 32, 111, 108, 32, 112, 32, 112, 108, 97, 105, 110, 116, 101, 120, 116, 32, 112, 114, 101, 32, 115, 101, 97, 114, 99, 104, 32, 115, 101, 99, 116, 105, 111, 110, 32, 115, 117, 109, 109, 97, 114, 121, 32, 116, 97, 98, 108, 101, 32, 117, 108, 32, 120, 109, 112]
def setT7 : List UInt8 := [100, 100, 32, 100, 116, 32, 108, 105, 32, 111, 112, 116, 103, 114, 111, 117, 112, 32, 111, 112, 116, 105, 111, 110, 32, 112, 32, 114, 98, 32, 114, 112, 32, 114, 116, 32, 114, 116, 99]
def setT8 : List UInt8 := [97, 112, 112, 108, 101, 116, 32, 99, 97, 112, 116, 105, 111, 110, 32, 104, 116, 109, 108, 32, 109, 97, 114, 113, 117, 101, 101, 32, 111, 98, 106, 101, 99, 116, 32, 116, 97, 98, 108, 101, 32, 116, 100, 32, 116, 101, 109, 112, 108, 97, 116, 101, 32, 116, 104, 32]
def setT9 : List UInt8 := [97, 112, 112, 108, 101, 116, 32, 99, 97, 112, 116, 105, 111, 110, 32, 104, 116, 109, 108, 32, 109, 97, 114, 113, 117, 101, 101, 32, 111, 98, 106, 101, 99, 116, 32, 116, 97, 98, 108, 101, 32, 116, 100, 32, 116, 101, 109, 112, 108, 97, 116, 101, 32, 116, 104, 32, 111, 108, 32, 117, 108]
def setT10 : List UInt8 := [97, 112, 112, 108, 101, 116, 32, 99, 97, 112, 116, 105, 111, 110, 32, 104, 116, 109, 108, 32, 109, 97, 114, 113, 117, 101, 101, 32, 111, 98, 106, 101, 99, 116, 32, 116, 97, 98, 108, 101, 32, 116, 100, 32, 116, 101, 109, 112, 108, 97, 116, 101, 32, 116, 104, 32, 98, 117, 116, 116, 111, 110]
def setT11 : List UInt8 := [104, 116, 109, 108, 32, 116, 97, 98, 108, 101, 32, 116, 101, 109, 112, 108, 97, 116, 101]
def setT12 : List UInt8 := [97, 100, 100, 114, 101, 115, 115, 32, 97, 112, 112, 108, 101, 116, 32, 97, 114, 101, 97, 32, 97, 114, 116, 105, 99, 108, 101, 32, 97, 115, 105, 100, 101, 32, 98, 97, 115, 101, 32, 98, 97, 115, 101, 102, 111, 110, 116, 32, 98, 103, 115, 111, 117, 110, 100, 32, 98, 108, 111, 99, 107, 113, 117, 111, 116, 101, 32, 98, 111, 100, 121, 32, 98, 114, 32, 98, 117, 116, 116, 111, 110, 32, 99, 97, 112, 116, 105, 111, 110, 32, 99, 101, 110, 116, 101, 114, 32, 99, 111, 108, 32, 99, 111, 108, 103, 114, 111, 117, 112, 32, 100, 100, 32, 100, 101, 116, 97, 105, 108, 115, 32, 100, 105, 114, 32, 100, 105, 118, 32, 100, 108, 32, 100, 116, 32, 101, 109, 98, 101, 100, 32, 102, 105, 101, 108, 100, 115, 101, 116, 32, 102, 105, 103, 99, 97, 112, 116, 105, 111, 110, 32, 102, 105, 103, 117, 114, 101, 32, 102, 111, 111, 116, 101, 114, 32, 102, 111, 114, 109, 32, 102, 114, 97, 109, 101, 32, 102, 114, 97, 109, 101, 115, 101, 116, 32, 104, 49, 32, 104, 50, 32, 104, 51, 32, 104, 52, 32, 104, 53, 32, 104, 54, 32, 104, 101, 97, 100, 32, 104, 101, 97, 100, 101, 114, 32, 104, 103, 114, 111, 117, 112, 32, 104, 114, 32, 104, 116, 109, 108, 32, 105, 102, 114, 97, 109, 101, 32, 105, 109, 103, 32, 105, 110, 112, 117, 116, 32, 107, 101, 121, 103, 101, 110, 32, 108, 105, 32, 108, 105, 110, 107, 32, 108, 105, 115, 116, 105, 110, 103, 32, 109, 97, 105, 110, 32, 109, 97, 114, 113, 117, 101, 101, 32, 109, 101, 110, 117, 32, 109, 101, 116, 97, 32, 110, 97, 118, 32, 110, 111, 101, 109, 98, 101, 100, 32, 110, 111, 102, 114, 97, 109, 101, 115, 32, 110, 111, 115, 99, 114, 105, 112, 116, 32, 111, 98, 106, 101, 99, 116, 32, 111, 108, 32, 112, 32, 112, 97, 114, 97, 109, 32, 112, 108, 97, 105, 110, 116, 101, 120, 116, 32, 112, 114, 101, 32, 115, 99, 114, 105, 112, 116, 32, 115, 101, 97, 114, 99, 104, 32, 115, 101, 99, 116, 105, 111, 110, 32, 115, 101, 108, 101, 99, 116, 32, 115, 111, 117, 114, 99, 101, 32, 115, 116, 121, 108, 101, 32, 115, 117, 109, 109, 97, 114, 121, 32, 116, 97, 98, 108, 101, 32, 116, 98, 111, 100, 121, 32, 116, 100, 32, 116, 101, 109, 112, 108, 97, 116, 101, 32, 116, 101, 120, 116, 97, 114, 101, 97, 32, 116, 102, 111, 111, 116, 32, 116, 104, 32, 116, 104, 101, 97, 100, 32, 116, 105, 116, 108, 101, 32, 116, 114, 32, 116, 114, 97, 99, 107, 32, 117, 108, 32, 119, 98, 114, 32, 120, 109, 112]
def setT13 : List UInt8 := [97, 112, 112, 108, 101, 116, 32, 99, 97, 112, 116, 105, 111, 110, 32, 109, 97, 114, 113, 117, 101, 101, 32, 111, 98, 106, 101, 99, 116, 32, 116, 100, 32, 116, 101, 109, 112, 108, 97, 116, 101, 32, 116, 104]
def setT14 : List UInt8 := [99, 97, 112, 116, 105, 111, 110, 32, 99, 111, 108, 32, 99, 111, 108, 103, 114, 111, 117, 112, 32, 116, 98, 111, 100, 121, 32, 116, 100, 32, 116, 102, 111, 111, 116, 32, 116, 104, 32, 116, 104, 101, 97, 100, 32, 116, 114]
def setT15 : List UInt8 := [97, 32, 97, 98, 98, 114, 32, 97, 100, 100, 114, 101, 115, 115, 32, 97, 114, 116, 105, 99, 108, 101, 32, 97, 115, 105, 100, 101, 32, 98, 32, 98, 100, 105, 32, 98, 100, 111, 32, 98, 108, 111, 99, 107, 113, 117, 111, 116, 101, 32, 98, 114, 32, 99, 97, 112, 116, 105, 111, 110, 32, 99, 101, 110, 116, 101, 114, 32, 99, 105, 116, 101, 32, 99, 111, 100, 101, 32, 99, 111, 108, 32, 99, 111, 108, 103, 114, 111, 117, 112, 32, 100, 97, 116, 97, 32, 100, 100, 32, 100, 101, 108, 32, 100, 101, 116, 97, 105, 108, 115, 32, 100, 102, 110, 32, 100, 105, 97, 108, 111, 103, 32, 100, 105, 118, 32, 100, 108, 32, 100, 116, 32, 101, 109, 32, 102, 105, 103, 99, 97, 112, 116, 105, 111, 110, 32, 102, 105, 103, 117, 114, 101, 32, 102, 111, 111, 116, 101, 114, 32, 104, 49, 32, 104, 50, 32, 104, 51, 32, 104, 52, 32, 104, 53, 32, 104, 54, 32, 104, 101, 97, 100, 101, 114, 32, 104, 103, 114, 111, 117, 112, 32, 104, 114, 32, 105, 32, 105, 109, 103, 32, 105, 110, 115, 32, 107, 98, 100, 32, 108, 97, 98, 101, 108, 32, 108, 105, 32, 109, 97, 105, 110, 32, 109, 97, 114, 107, 32, 109, 101, 110, 117, 32, 110, 97, 118, 32, 111, 108, 32, 112, 32, 112, 114, 101, 32, 113, 32, 115, 32, 115, 97, 109, 112, 32, 115, 101, 97, 114, 99, 104, 32, 115, 101, 99, 116, 105, 111, 110, 32, 115, 109, 97, 108, 108, 32, 115, 112, 97, 110, 32, 115, 116, 114, 111, 110, 103, 32, 115, 117, 98, 32, 115, 117, 109, 109, 97, 114, 121, 32, 115, 117, 112, 32, 116, 97, 98, 108, 101, 32, 116, 98, 111, 100, 121, 32, 116, 100, 32, 116, 101, 120, 116, 97, 114, 101, 97, 32, 116, 102, 111, 111, 116, 32, 116, 104, 32, 116, 104, 101, 97, 100, 32, 116, 105, 109, 101, 32, 116, 114, 32, 117, 32, 117, 108, 32, 118, 97, 114, 32, 119, 98, 114]
def setTexts : List (List UInt8) := [setT0, setT1, setT2, setT3, setT4, setT5, setT6, setT7, setT8, setT9, setT10, setT11, setT12, setT13, setT14, setT15]
set_option maxHeartbeats 4000000 in
set_option maxRecDepth 100000 in
/-- the sets' names -/
theorem listsAll_ok (w : World) : CallsR Tryd.prog 27 #[] w fun v w' => Frm w w' ∧ v = .agg ⟨strs setTexts⟩ := by
  refine enter (l := []) Tryd.func27 rfl Tryd.ntmps27 (by kernel_rfl) rfl ?_
  have hS := Sep.start w
  refine sgo ?_
  refine salloc hS fun b0 w0 hS => ?_
  refine sgo ?_
  refine salloc hS fun b1 w1 hS => ?_
  refine sgo ?_
  replace hS : Sep w w1 [pOwn b1 (strs (List.replicate 16 [])), pOwn b0 (strs (List.replicate 16 []))] := hS
  iterate 15 (refine sst_str hS 0 fun w2 hS => ?_; refine sgo ?_)
  refine sst_str hS 0 fun w2 hS => ?_
  obtain ⟨L, hL, hlen, h1, hS⟩ : ∃ L : List Value, L = strs setTexts ∧ L.length = 16 ∧ (L.all fun c => c.oneCell') = true ∧ Sep w w2 [pOwn b1 L, pOwn b0 (strs (List.replicate 16 []))] := ⟨strs setTexts, rfl, rfl, rfl, hS⟩
  refine sgo ?_
  refine ssta (vs := L) hS 1 (fun w3 hS => ?_) (hy := by rw [show (Value.agg ⟨L⟩) = .agg ⟨(L.drop 0).take 16⟩ from by rw [List.drop_zero, ← hlen, List.take_length]]; rfl) (hv := ⟨hlen, rfl⟩) (h1 := h1)
  refine sgo ?_
  have ho := hS.own 1 rfl
  refine fpc (l := L) (zv := .agg ⟨strs (List.replicate 16 [])⟩) (.inl rfl) rfl rfl rfl ho (hi := by rw [hlen]; infer_instance) ⟨hS.frm, by rw [hL]⟩
def setT (k : Nat) : List UInt8 := setTexts.getD k []
/-- is a name in the k-th set? -/
def inSet (k : Nat) (n : List UInt8) : Bool := decide (n ∈ Lib.fields (setT k))
theorem setT_facts : setTexts.length = 16 ∧ (setTexts.all fun t => decide (t.length ≤ 1048576) && decide ((Lib.fields t).length ≤ 1048576) && t.all fun c => decide (c.toNat < 128)) = true := by decide +kernel
theorem setT_fact {k : Nat} (hk : k < 16) : setTexts[k]? = some (setT k) ∧ ((setT k).length ≤ 1048576 ∧ (Lib.fields (setT k)).length ≤ 1048576) ∧ (setT k).all (fun c => decide (c.toNat < 128)) = true := by
  have h1 : setTexts[k]? = some setTexts[k] := List.getElem?_eq_getElem (by rw [setT_facts.1]; exact hk)
  have h2 : setT k = setTexts[k] := by unfold setT; rw [List.getD_eq_getElem?_getD, h1]; rfl
  have h3 := List.all_eq_true.1 setT_facts.2 setTexts[k] (List.getElem_mem _)
  rw [Bool.and_eq_true, Bool.and_eq_true, decide_eq_true_eq, decide_eq_true_eq] at h3
  rw [h2]
  exact ⟨h1, h3⟩
set_option maxHeartbeats 1000000 in
theorem inK_ok (k : Nat) (hk : k < 16) (n : List UInt8) (w : World) (hA : Asc w) : PureC Tryd.prog 13 #[str n, int k] w (.bool (inSet k n)) := by
  obtain ⟨ht1, ⟨ht2, htf⟩, ht3⟩ := setT_fact hk
  unfold inSet
  generalize setT k = T at *
  refine enter (l := [str n, int k]) Tryd.func13 rfl Tryd.ntmps13 (by kernel_rfl) rfl ?_
  refine sgo ?_
  refine wlpure (isSet_ok k hk _) fun w1 hf1 => ?_
  refine sgo ?_
  refine wlcall (listsAll_ok w1) ?_
  rintro _ w2 ⟨hf2, rfl⟩
  have hl16 : setTexts.length = 16 := setT_facts.1
  have hcell : (Array.mk (strs setTexts))[k]? = some (str T) := by simpa using strs_at ht1
  have hsl := strs_len setTexts
  generalize strs setTexts = L at *
  rw [hl16] at hsl
  clear hl16 ht1
  refine wlp ?_
  refine wl_idx ?_ (hy := y_aidx rfl rfl hk hcell)
  refine sgo ?_
  refine wlcall (strFields_ok T ht2 ht3 w2 ((hA.frm hf1).frm hf2)) ?_
  rintro _ w3 ⟨b, rfl, hS⟩
  generalize Lib.fields T = F at *
  have hf := hf1.trans hf2
  replace hS : Sep w w3 [pOwn b (strs F)] := ⟨hf.trans hS.frm, hS.ok, fun c hc x hx => Nat.le_trans hf.size (hS.low c hc x hx), hS.apart⟩
  refine sgo ?_
  refine wcloop (X := Nat) (fun i => [(0, str n), (13, .slice (pb b) F.length F.length), (14, int F.length), (15, int i)])
    (fun i wr => i ≤ F.length ∧ (∀ j, (hj : j < F.length) → j < i → F[j] ≠ n) ∧ wr = w3) (fun i => F.length - i) 0 ⟨rfl, rfl, rfl, rfl, trivial⟩ ⟨Nat.zero_le _, fun _ _ h => absurd h (by omega), rfl⟩ ?_
  rintro i wr ρ ⟨hil, hj, rfl⟩
  refine sgo ?_
  (show WC _ _ _ _ _ _ _; first | refine WC_dec rfl (fun hc => ?_) (fun hc => ?_) | refine WC_cond rfl (fun hc => ?_) (fun hc => ?_))
  · have hlt : i < F.length := by omega
    have hg := strs_get hlt
    generalize hx : F[i] = x at *
    clear hc
    refine sgo ?_
    (show WC _ _ _ _ _ _ _; first | refine WC_dec rfl (fun hc => ?_) (fun hc => ?_) | refine WC_cond rfl (fun hc => ?_) (fun hc => ?_))
    · refine sgo ?_
      (first | refine fp1 (.inl rfl) rfl rfl ?_ | refine fp2 (.inl rfl) rfl rfl rfl ?_ | refine fp3 (.inl rfl) rfl rfl rfl rfl ?_ | refine fp0 (.inr rfl) rfl ?_ | refine fp0 (.inl rfl) rfl ?_ | refine fp1 (.inr rfl) rfl rfl ?_); refine ⟨?_, by (first | exact Frm.refl _ | assumption | exact Go.Sv.Sep.frm (by assumption) | (refine Frm.trans ?_ (by assumption); first | exact Frm.refl _ | assumption))⟩; (try simp only [realB, rv_true, Nat.reduceBEq, cond_true, cond_false, entG, real_lif, updGL])
      rw [decide_eq_true]
      rw [← hc, ← hx]; exact List.getElem_mem hlt
    · refine sgo ?_
      refine ⟨i + 1, ⟨rfl, rfl, rfl, rfl, trivial⟩, ⟨hlt, fun j hj' hji => ?_, rfl⟩, (by (try dsimp only); omega)⟩
      rcases Nat.lt_or_ge j i with h | h
      · exact hj j hj' h
      · obtain rfl : j = i := by omega
        rw [hx]; exact hc
  · refine sgo ?_
    (first | refine fp1 (.inl rfl) rfl rfl ?_ | refine fp2 (.inl rfl) rfl rfl rfl ?_ | refine fp3 (.inl rfl) rfl rfl rfl rfl ?_ | refine fp0 (.inr rfl) rfl ?_ | refine fp0 (.inl rfl) rfl ?_ | refine fp1 (.inr rfl) rfl rfl ?_); refine ⟨?_, by (first | exact Frm.refl _ | assumption | exact Go.Sv.Sep.frm (by assumption) | (refine Frm.trans ?_ (by assumption); first | exact Frm.refl _ | assumption))⟩; (try simp only [realB, rv_true, Nat.reduceBEq, cond_true, cond_false, entG, real_lif, updGL])
    rw [decide_eq_false]
    exact mem_at fun j hj' => hj j hj' (by omega)
end Go.Proofs.YtkclldfejembnaaDoor

/-
  Regions that draw their order, whatever they make: by a plan that says of each operation what it yields, makes and takes.
-/
set_option linter.unusedSimpArgs false
set_option linter.unusedVariables false
set_option linter.unnecessarySimpa false
namespace Go.Sv
open Go Go.RowKit

theorem Sep.perm {w0 w : World} {cs ds : List Plot} (h : Sep w0 w cs) (hp : cs.Perm ds) : Sep w0 w ds :=
  ⟨h.frm, fun c hc => h.ok c (hp.mem_iff.2 hc), fun c hc => h.low c (hp.mem_iff.2 hc), hp.pairwise h.apart fun h x hx hx' => h x hx' hx⟩
theorem filter_insert {α : Type} [DecidableEq α] {k : α} {q : α → Bool} (hq : q k = false) : ∀ {l : List α}, l.Nodup → k ∈ l → (l.filter fun j => decide (j = k) || q j).Perm (k :: l.filter q)
  | [], _, h => by cases h
  | x :: l, hn, hm => by
    rw [List.nodup_cons] at hn
    by_cases e : x = k
    · subst e
      have hrest : l.filter (fun j => decide (j = x) || q j) = l.filter q := by
        refine List.filter_congr fun j hj => ?_
        have : j ≠ x := fun h => hn.1 (h ▸ hj)
        simp [this]
      simp only [List.filter_cons, decide_true, Bool.true_or, if_true, hq, Bool.false_eq_true, if_false, hrest]
      exact List.Perm.refl _
    · have hm' : k ∈ l := by
        rcases List.mem_cons.1 hm with h | h
        · exact absurd h.symm e
        · exact h
      have ih := filter_insert hq hn.2 hm'
      simp only [List.filter_cons, decide_eq_false e, Bool.false_or]
      cases q x with
      | false => simpa using ih
      | true => simpa using (ih.cons x).trans (List.Perm.swap k x _)

structure Plan (D : Type) where
  val : Nat → D → Value
  pl : Nat → D → List Plot
  con : Nat → Option Nat
  fact : Nat → (Nat → D) → Prop
section
variable {D : Type}
def setD (a : Nat → D) (k : Nat) (d : D) : Nat → D := fun j => if j = k then d else a j
theorem setD_same (a : Nat → D) (k : Nat) (d : D) : setD a k d k = d := if_pos rfl
theorem setD_ne (a : Nat → D) {k j : Nat} (d : D) (h : j ≠ k) : setD a k d j = a j := if_neg h
def Plan.live (p : Plan D) (L : Nat → Bool) (j : Nat) : Bool := L j && (match p.con j with | some c => !L c | none => true)
def Plan.mem (p : Plan D) (n : Nat) (L : Nat → Bool) (a : Nat → D) : List Plot := ((List.range n).filter (p.live L)).flatMap fun j => p.pl j (a j)
/-- what operation k takes -/
def Plan.takes (p : Plan D) (n k : Nat) (a : Nat → D) : List Plot := ((List.range n).filter fun j => decide (p.con j = some k)).flatMap fun j => p.pl j (a j)
def Plan.S (p : Plan D) (w0 : World) (cs : List Plot) (σ0 : Env) (ops : List Oper) (L : Nat → Bool) (σ : Env) (w : World) : Prop :=
  (∀ s, (∀ (k : Nat) (o : Oper), ops[k]? = some o → o.dst ≠ some s) → σ s = σ0 s) ∧
  ∃ a : Nat → D, (∀ (k : Nat) (o : Oper), ops[k]? = some o → L k = true → (∀ d, o.dst = some d → σ d = p.val k (a k)) ∧ p.fact k a) ∧ Sep w0 w (p.mem ops.length L a ++ cs)
/-- how operation k goes, by the plan -/
def Plan.Rule (p : Plan D) (P : Program) (w0 : World) (cs : List Plot) (σ0 : Env) (ops : List Oper) (k : Nat) (o : Oper) : Prop :=
  ∀ (a : Nat → D) (σ : Env) (w : World) (rest : List Plot), (∀ s, (∀ (k : Nat) (o : Oper), ops[k]? = some o → o.dst ≠ some s) → σ s = σ0 s) →
    (∀ (j : Nat) (oj : Oper), bindsOn o j = true → ops[j]? = some oj → (∀ d, oj.dst = some d → σ d = p.val j (a j)) ∧ p.fact j a) → Sep w0 w (p.takes ops.length k a ++ (cs ++ rest)) →
    (Region.wanted o (yl ops.toArray σ) = true ∧ comes P (fun v w' => ∃ d, v = p.val k d ∧ p.fact k (setD a k d) ∧ Sep w0 w' (p.pl k d ++ (cs ++ rest))) ((execOp (evl σ) o).run P w)) ∨
    (Region.wanted o (yl ops.toArray σ) = false ∧ ∃ d, undef = p.val k d ∧ p.fact k (setD a k d) ∧ Sep w0 w (p.pl k d ++ (cs ++ rest)))
def Plan.Rules (p : Plan D) (P : Program) (w0 : World) (cs : List Plot) (σ0 : Env) (ops : List Oper) : Nat → List Oper → Prop
  | _, [] => True
  | k, o :: l => p.Rule P w0 cs σ0 ops k o ∧ p.Rules P w0 cs σ0 ops (k + 1) l
/-- the plan's book-keeping: whoever takes waits; targets differ -/
def planB (con : Nat → Option Nat) (ops : List Oper) : Bool :=
  (List.range ops.length).all fun j => (match con j with
    | some c => decide (c < ops.length) && (match ops[c]? with | some oc => bindsOn oc j | none => false)
    | none => true) && (List.range ops.length).all fun i => decide (i = j) || (match ops[i]?, ops[j]? with
      | some oi, some oj => (match oi.dst with | some d => decide (oj.dst ≠ some d) | none => true)
      | _, _ => true)
theorem comes_mono {P : Program} {T T' : Value → World → Prop} (h : ∀ v w, T v w → T' v w) : ∀ {r : Result Next}, comes P T r → comes P T' r := by
  intro r hr
  unfold comes at *
  split at hr
  · exact h _ _ hr
  · exact h _ _ hr
  · exact Calls.mono hr fun e w ⟨v, he, hv⟩ => ⟨v, he, h _ _ hv⟩
  · exact hr.elim
end
end Go.Sv
namespace Go.Sv
open Go Go.RowKit
theorem frameOf {σ : Env} (sl : List (Nat × Value)) (h : Has σ sl) : σ = real (updGL (lif σ) sl) := by rw [← real_updL, updL_has h]
theorem notDst {ops : List Oper} {s : Nat} (h : (ops.all fun o => decide (o.dst ≠ some s)) = true) : ∀ (k : Nat) (o : Oper), ops[k]? = some o → o.dst ≠ some s := fun k o hk =>
  of_decide_eq_true (List.all_eq_true.1 h o (List.mem_of_getElem? hk))
section
variable {D : Type} {P : Program} {w0 w w' : World} {cs rest : List Plot} {σ : Env} {d : Option Tmp} {op : Op} {ty : TypeId} {pos : String} {af : Array Edge} {v : Value} {k : Nat} {ops : Array Oper} {T : Value → World → Prop}
/-- an operation of a plan, that has no guard -/
theorem rule_y {B : Prop} {o : Oper} (hy : Y P σ o w v w') (hT : T v w') (hg : o.guard = none := by rfl) :
    (Region.wanted o (yl ops σ) = true ∧ comes P T ((execOp (evl σ) o).run P w)) ∨ B := .inl ⟨by simp [Region.wanted, hg], comes_of_Y hy hT⟩
variable {t t' e e' : TypeId} {x y : Operand} {zv u : Value} {size bytes i m n c c' : Nat} {p q : Option Addr} {xs news vs : List Value}
/-- append to the i-th piece -/
theorem y_app [hu : Und P t (.slice e)] [hu' : Und P t' (.slice e')] [hi : Inf P e zv size bytes] (hS : Sep w0 w cs) (i : Nat) (hs : Sg w q news) (hc : cs[i]? = some (pRow size p m c xs)) (hx : evl σ x = .slice p m c) (hy : evl σ y = .slice q n c') (hl : news.length = n * size)
    (h1 : ∀ u ∈ news, u.oneCell' = true) (hz : zv.cells.size = size) (hsz : 0 < size) (hb : (m + n) * bytes ≤ 140737488355328 ∧ m + n ≤ 9223372036854775807) :
    ∃ p' c2 w', Y P σ ⟨d, .call ⟨.builtin .append, #[x, y], #[t, t']⟩, ty, pos, af, none⟩ w (.slice p' (m + n) c2) w' ∧ Sep w0 w' (cs.set i (pRow size p' (m + n) c2 (xs ++ news))) := by
  obtain ⟨p', c2, w', h2, h3, h4⟩ := run_append_row (P := P) (t := t) (tx := t') (ty := ty) (e := e) hz hsz (hS.row i hc) (src_of_sg (tx := t') (c := c') hs hl h1) hb.2 hb.1
  exact ⟨p', c2, w', run_append_op hx hy h2, hS.upd i hc h4 h3⟩
end
end Go.Sv

/-
  Package event: walk.
-/
set_option linter.unusedSimpArgs false
set_option linter.unusedVariables false
set_option linter.unnecessarySimpa false
namespace Go.Proofs.YtkclldfejembnaaDoor
open Go Go.Sv Go.RowKit

/-- the events alone -/
def evs (ms : List EvM) : List Ev := ms.map EvM.e
/-- how the first i nest -/
def lkI (ms : List EvM) (i : Nat) : Lk := lkR ((evs ms).take i)
end Go.Proofs.YtkclldfejembnaaDoor

/-
  Package link: paths without dot segments; the twins.
-/
set_option linter.unusedSimpArgs false
set_option linter.unusedVariables false
set_option linter.unnecessarySimpa false
namespace Go.Sv
open Go Go.RowKit
section
variable {P : Program} {σ : Env} {w : World} {d : Option Tmp} {ty t t' : TypeId} {pos : String} {af : Array Edge} {g : Option (Nat × Bool)} {x y : Operand} {a b : Int} {ats : Array TypeId}
end
end Go.Sv
namespace Go.Proofs.YtkclldfejembnaaDoor
open Go Go.Sv Go.RowKit

/-- how many bytes stand ahead of the first of some -/
def upR (l sm : List UInt8) : Nat := (l.takeWhile fun c => decide (c ∉ sm)).length
/-- the last place below n where c stands -/
def lastF (l : List UInt8) (c : Nat) : Nat → Int
  | 0 => -1
  | n + 1 => if at0 l n = c then n else lastF l c n
def lastR (l : List UInt8) (c : Nat) : Int := lastF l c l.length
def parR (l : List UInt8) : List UInt8 := l.take (max (lastR l 47) 0).toNat













def pfx (p l : List UInt8) : Bool := p.isPrefixOf l
/-- a segment's end -/
def segN (l : List UInt8) : Nat := 1 + upR (l.drop 1) [47]
def dotStep (l out : List UInt8) : List UInt8 × List UInt8 :=
  if pfx [46, 46, 47] l then (l.drop 3, out)
  else if pfx [46, 47] l then (l.drop 2, out)
  else if pfx [47, 46, 47] l then (l.drop 2, out)
  else if l = [47, 46] then ([47], out)
  else if pfx [47, 46, 46, 47] l then (l.drop 3, parR out)
  else if l = [47, 46, 46] then ([47], parR out)
  else if l = [46] ∨ l = [46, 46] then ([], out)
  else (l.drop (segN l), out ++ l.take (segN l))
def dotsF : Nat → List UInt8 → List UInt8 → List UInt8
  | 0, _, out => out
  | f + 1, l, out => if l = [] then out else dotsF f (dotStep l out).1 (dotStep l out).2
def dotsL (l out : List UInt8) : List UInt8 := dotsF l.length l out
end Go.Proofs.YtkclldfejembnaaDoor

/-
  Package event: Nested, Open, Depth.
-/
set_option linter.unusedSimpArgs false
set_option linter.unusedVariables false
set_option linter.unnecessarySimpa false
namespace Go.Proofs.YtkclldfejembnaaDoor
open Go Go.Sv Go.RowKit


















































def mostR (m d : Nat) (k : Int) : Nat := if k = 1 ∨ k = 3 then max m (d + 1) else m




























end Go.Proofs.YtkclldfejembnaaDoor

/-
  Package event: Close; slices.Backward.
-/
set_option linter.unusedSimpArgs false
set_option linter.unusedVariables false
set_option linter.unnecessarySimpa false
namespace Go.Proofs.YtkclldfejembnaaDoor
open Go Go.Sv Go.RowKit












































def closeE (n : List UInt8) : Ev := ⟨2, n, [], []⟩
/-- the events that close, in memory -/
def closeM (n : List UInt8) : EvM := ⟨closeE n, none, 0⟩
/-- what Open tells -/
def openS (k : Lk) : List (List UInt8) := if k.err = 0 then k.stack else []
end Go.Proofs.YtkclldfejembnaaDoor

/-
  Structs of texts, numbers and bools compared.
-/
set_option linter.unusedSimpArgs false
set_option linter.unusedVariables false
set_option linter.unnecessarySimpa false
namespace Go.Sv
open Go Go.RowKit
def plainB (P : Program) : List Field → Nat → List TypeDesc → Bool
  | [], _, [] => true
  | f :: fs, k, d :: ds => (f.name != "_") && (f.offset == k) && (match P.underlying f.type, d with
    | some .string, .string => true
    | some .bool, .bool => true
    | some (.int a), .int b => kEq a b
    | _, _ => false) && plainB P fs (k + 1) ds
  | _, _, _ => false
/-- a struct whose fields are one cell each: texts, bools, numbers -/
class PlainS (P : Program) (t : TypeId) (ds : outParam (List TypeDesc)) : Prop where
  ok : ∃ fs, P.underlying t = some (.struct fs) ∧ plainB P fs.toList 0 ds = true ∧ P.stoodInHeld t = false ∧ P.eqGuardType P.depth t = false
/-- are two structs the same? -/
def eqL : List TypeDesc → List Value → List Value → Option Bool
  | [], [], [] => some true
  | .string :: ds, .string ⟨⟨a⟩⟩ :: xs, .string ⟨⟨b⟩⟩ :: ys => match eqL ds xs ys with | some r => some (decide (a = b) && r) | none => none
  | .bool :: ds, .bool a :: xs, .bool b :: ys => match eqL ds xs ys with | some r => some (decide (a = b) && r) | none => none
  | .int k :: ds, .int k1 a :: xs, .int k2 b :: ys => match kEq k k1, kEq k k2, eqL ds xs ys with | true, true, some r => some (decide (a = b) && r) | _, _, _ => none
  | _, _, _ => none
section
variable {P : Program} {w : World}
variable {σ : Env} {d : Option Tmp} {ty t t' : TypeId} {pos : String} {af : Array Edge} {g : Option (Nat × Bool)} {x y : Operand} {ds : List TypeDesc} {xs ys : List Value} {r : Bool}
end
end Go.Sv

/- This seat's plain structs as instances (made by a program of ours). -/
namespace Go.Proofs.YtkclldfejembnaaDoor
open Go Go.Sv
instance : PlainS Tryd.prog 68 [.int .i32, .int .i64, .int .i64, .bool] := ⟨_, Tryd.underlying68, by kernel_rfl, by kernel_rfl, by kernel_rfl⟩
instance : PlainS Tryd.prog 69 [.int .i32, .int .i64, .int .i64, .bool] := ⟨_, Tryd.underlying69, by kernel_rfl, by kernel_rfl, by kernel_rfl⟩
end Go.Proofs.YtkclldfejembnaaDoor

/-
  sieveref18: Same, Equal, Ends; sievelaw18: own, same.
-/
set_option linter.unusedSimpArgs false
set_option linter.unusedVariables false
set_option linter.unnecessarySimpa false
namespace Go.Proofs.YtkclldfejembnaaDoor
open Go Go.Sv Go.RowKit

end Go.Proofs.YtkclldfejembnaaDoor

/-
  sievelaw18: own; event: copied.
-/
set_option linter.unusedSimpArgs false
set_option linter.unusedVariables false
set_option linter.unnecessarySimpa false
namespace Go.Proofs.YtkclldfejembnaaDoor
open Go Go.Sv Go.RowKit

end Go.Proofs.YtkclldfejembnaaDoor

/-
  sievelaw18: awake, EventNames.
-/
set_option linter.unusedSimpArgs false
set_option linter.unusedVariables false
set_option linter.unnecessarySimpa false
namespace Go.Proofs.YtkclldfejembnaaDoor
open Go Go.Sv Go.RowKit





def ex1 : List EvM := [⟨⟨1, [98], [], []⟩, none, 0⟩, ⟨⟨2, [105], [], []⟩, none, 0⟩]
def ex2 : List EvM := [⟨⟨3, [98, 114], [], []⟩, none, 0⟩]
end Go.Proofs.YtkclldfejembnaaDoor

/-
  Package event: Equal, Count, Text.
-/
set_option linter.unusedSimpArgs false
set_option linter.unusedVariables false
set_option linter.unnecessarySimpa false
namespace Go.Sv
open Go Go.RowKit
section
variable {P : Program} {w : World}
variable {σ : Env} {d : Option Tmp} {ty t t' el : TypeId} {pos : String} {af : Array Edge} {g : Option (Nat × Bool)} {x y : Operand} {zv : Value} {bytes : Nat}
end
end Go.Sv
namespace Go.Proofs.YtkclldfejembnaaDoor
open Go Go.Sv Go.RowKit







































































































































































































end Go.Proofs.YtkclldfejembnaaDoor

/-
  Package event: Count, Text.
-/
set_option linter.unusedSimpArgs false
set_option linter.unusedVariables false
set_option linter.unnecessarySimpa false
namespace Go.Proofs.YtkclldfejembnaaDoor
open Go Go.Sv Go.RowKit

def cntR (l : List Ev) (k : Int) : Nat := l.countP fun e => decide (e.kind = k)
/-- how many of each kind -/
def cnts (l : List Ev) : List Value := [int (cntR l 0), int (cntR l 1), int (cntR l 2), int (cntR l 3)]
/-- all text in one -/
def etxt (e : Ev) : List UInt8 := if e.kind = 0 then mendR e.text else []
def textR (l : List Ev) : List UInt8 := l.flatMap etxt
end Go.Proofs.YtkclldfejembnaaDoor

/-
  sievelaw18: EventChecks.
-/
set_option linter.unusedSimpArgs false
set_option linter.unusedVariables false
set_option linter.unnecessarySimpa false
namespace Go.Sv
open Go Go.RowKit
section
variable {D : Type} {P : Program} {w0 w w' : World} {cs rest : List Plot} {σ : Env} {d : Option Tmp} {dd dj : Nat} {op : Op} {ty : TypeId} {pos : String} {af : Array Edge} {v : Value} {k j : Nat} {want : Bool} {ops : Array Oper} {T : Value → World → Prop} {B : Prop}
theorem y_ev (sl : List (Nat × Value)) (hs : Has σ sl) {g : Option (Nat × Bool)} (he : ev1 (updGL (lif σ) sl) op = some ⟨v, true⟩) : Y P σ ⟨d, op, ty, pos, af, g⟩ w v w := by
  have hy : Y P (real (updGL (lif σ) sl)) ⟨d, op, ty, pos, af, g⟩ w v w := ev1_ok he rfl
  rw [← frameOf sl hs] at hy
  exact hy
/-- one that only looks at what is known -/
theorem rule_e (sl : List (Nat × Value)) (hs : Has σ sl) (hT : T v w) (he : ev1 (updGL (lif σ) sl) op = some ⟨v, true⟩ := by rfl) :
    (Region.wanted (⟨d, op, ty, pos, af, none⟩ : Oper) (yl ops σ) = true ∧ comes P T ((execOp (evl σ) ⟨d, op, ty, pos, af, none⟩).run P w)) ∨ B := rule_y (y_ev sl hs he) hT
end
end Go.Sv
namespace Go.Proofs.YtkclldfejembnaaDoor
open Go Go.Sv Go.RowKit







structure CkD where
  q : Option Addr
  c : Nat
  ns : List EvM
def ckP (ms ns : List EvM) (p q : Option Addr) (c cc : Nat) : Plan CkD where
  val k d := match k with
    | 0 | 3 | 8 | 9 | 14 | 20 => .slice p ms.length c
    | 1 | 4 => .slice q ns.length cc
    | 2 | 5 => .bool (decide (evs ms = evs ns))
    | 10 => .slice d.q d.ns.length d.c
    | 15 | 16 => .agg ⟨cnts (evs ms)⟩
    | 21 | 22 => str (textR (evs ms))
    | _ => .bool true
  pl k d := match k with
    | 10 => [pRow 4 d.q d.ns.length d.c (d.ns.flatMap EvM.cells), pMany (d.ns.map EvM.row)]
    | _ => []
  con k := match k with
    | 10 => some 11
    | _ => none
  fact k a := match k with
    | 10 => evs (a 10).ns = evs ms
    | _ => True



















































































































































































































































































end Go.Proofs.YtkclldfejembnaaDoor

/-
  Regions that draw their order, by a plan, where operations may also take (and write) what lay there before.
-/
set_option linter.unusedSimpArgs false
set_option linter.unusedVariables false
set_option linter.unnecessarySimpa false
namespace Go.Sv
open Go Go.RowKit
theorem perm5 {α : Type} (A B C D E : List α) : ((A ++ B) ++ ((C ++ D) ++ E)).Perm (A ++ (C ++ (E ++ (B ++ D)))) := by
  simp only [List.append_assoc]
  refine List.Perm.append_left _ ?_
  have h1 : (B ++ (C ++ (D ++ E))).Perm (C ++ (B ++ (D ++ E))) := by
    rw [← List.append_assoc B C, ← List.append_assoc C B]
    exact List.perm_append_comm.append_right _
  refine h1.trans (List.Perm.append_left _ ?_)
  rw [← List.append_assoc]
  exact List.perm_append_comm
theorem perm4 {α : Type} (A B C D : List α) : (A ++ (B ++ (C ++ D))).Perm ((A ++ C) ++ (D ++ B)) := by
  simp only [List.append_assoc]
  refine List.Perm.append_left _ ?_
  have h1 : (B ++ (C ++ D)).Perm ((C ++ D) ++ B) := List.perm_append_comm
  rw [List.append_assoc] at h1
  exact h1
theorem perm6 {α : Type} (A B C S D E : List α) : ((A ++ B) ++ ((C ++ (S ++ D)) ++ E)).Perm (A ++ (C ++ (S ++ (E ++ (B ++ D))))) := by
  refine (perm5 A B C (S ++ D) E).trans (List.Perm.append_left _ (List.Perm.append_left _ ?_))
  have h1 : (E ++ (B ++ (S ++ D))) = ((E ++ B) ++ S) ++ D := by simp only [List.append_assoc]
  have h2 : (S ++ (E ++ (B ++ D))) = (S ++ (E ++ B)) ++ D := by simp only [List.append_assoc]
  rw [h1, h2]
  exact List.perm_append_comm.append_right _
theorem perm7 {α : Type} (A S B C D : List α) : (A ++ (S ++ (B ++ (C ++ D)))).Perm ((A ++ C) ++ ((S ++ D) ++ B)) := by
  have h1 : (A ++ (S ++ (B ++ (C ++ D)))) = (A ++ ((S ++ B) ++ (C ++ D))) := by simp only [List.append_assoc]
  rw [h1]
  refine (perm4 A (S ++ B) C D).trans (List.Perm.append_left _ ?_)
  have h2 : (S ++ D) ++ B = S ++ (D ++ B) := by simp only [List.append_assoc]
  rw [h2]
  have h3 : D ++ (S ++ B) = (D ++ S) ++ B := by simp only [List.append_assoc]
  have h4 : S ++ (D ++ B) = (S ++ D) ++ B := by simp only [List.append_assoc]
  rw [h3, h4]
  exact List.perm_append_comm.append_right _
section
variable {P : Program} {n : Nat} {ds : Ctx} {Q : Exit → Ctx → Env → World → Prop} {S : (Nat → Bool) → Env → World → Prop} {σ : Env} {w : World} {m : Nat}
theorem wpOpIn_of_I {ops : Array Oper} {dd : List Deferred} {Q' : Exit → Act → World → Prop} {T : Value → World → Prop} {K : Act → World → Prop} {i : Nat} {o : Oper} {ro : Option Nat} (hino : operIn n ro.isSome ops o = true) (ho : ops[i]? = some o)
    (h : (Region.wanted o (yl ops σ) = true ∧ comes P T ((execOp (evl σ) o).run P w)) ∨ (Region.wanted o (yl ops σ) = false ∧ T undef w))
    (next : ∀ v w', T v w' → K ((act n dd σ).put o.dst v) w') : wpOpIn (fen ro) m P ops Q' i K (act n dd σ) w := by
  unfold wpOpIn
  simp only [ho]
  rw [act_yielded hino]
  rcases h with ⟨hw, hy⟩ | ⟨hw, hy⟩
  · rw [hw, if_pos rfl]
    refine ⟨fun _ _ => fen_fn _ _, ?_⟩
    rw [fen_round, semAt_in hino, act_exec hino]
    generalize (execOp (evl σ) o).run P w = r at *
    cases r with
    | ok x w' =>
      cases x <;> simp only [comes] at hy <;> simp only [Oper.uponIn]
      case value u => exact next _ _ hy
      case skip => exact next _ _ hy
      case enter g args =>
        refine ⟨fun h => (by rw [fen_depth] at h; cases h), callsIn_fen (Calls.mono hy ?_)⟩
        rintro e w'' ⟨v, rfl, h2⟩
        exact next _ _ h2
    | halt x w' => simp only [comes] at hy
  · rw [hw, if_neg Bool.false_ne_true]
    exact ⟨fun _ _ => fen_fn _ _, next _ _ hy⟩
theorem wpAnyIn_of_I {ops : Array Oper} {dd : List Deferred} {Q' : Exit → Act → World → Prop} {ro : Option Nat} (hf : fwdB ops = true) (hin : ops.toList.all (operIn n ro.isSome ops) = true) (hop : ∀ k o, ops[k]? = some o → StepI P ops S k o)
    (hQ : ∀ L σ w, (∀ k, k < ops.size → L k = true) → S L σ w → Q' .normal (act n dd σ) w) :
    ∀ (f : Nat) (listed : Array Bool) (σ : Env) (w : World), listed.size = ops.size → Clo ops (fl listed) → listed.toList.count false ≤ f → S (fl listed) σ w → wpAnyIn (fen ro) m P .any ops Q' f listed (act n dd σ) w
  | 0, listed, σ, w, hsz, _, hc, hS => by
    have hall : ∀ k, k < ops.size → fl listed k = true := by
      intro k hk
      cases hL : fl listed k with
      | true => rfl
      | false =>
        exfalso
        simp only [fl, Array.getD_eq_getD_getElem?, show k < listed.size from by omega, Array.getElem?_eq_getElem, Option.getD_some] at hL
        have : false ∈ listed.toList := by rw [← hL]; simp
        have := List.count_pos_iff.2 this
        omega
    refine ⟨?_, hQ _ _ _ hall hS⟩
    cases hr : Region.ready .any ops listed with
    | nil => rfl
    | cons i r =>
      exfalso
      have hi : i ∈ Region.ready .any ops listed := by rw [hr]; exact List.mem_cons_self
      obtain ⟨h0, o, ho, _⟩ := mem_ready.1 hi
      have hk : i < ops.size := (Array.getElem?_eq_some_iff.1 ho).1
      have := hall i hk
      simp only [fl, Array.getD_eq_getD_getElem?, show i < listed.size from by omega, Array.getElem?_eq_getElem, Option.getD_some] at this h0
      rw [this] at h0
      cases h0
  | f + 1, listed, σ, w, hsz, hcl, hc, hS => by
    refine ⟨fun hr => hQ _ _ _ (ready_of_fwd hf hsz hr) hS, fun i hi => ?_⟩
    obtain ⟨h0, o, ho, hall⟩ := mem_ready.1 hi
    have hio : i < ops.size := (Array.getElem?_eq_some_iff.1 ho).1
    have hlt : i < listed.size := by omega
    have h0' : listed[i] = false := by simpa [hlt] using h0
    have hup : Up ops o i (fl listed) := by
      refine ⟨by simp [fl, hlt, h0'], ?_, ?_⟩
      · intro j hj
        obtain ⟨e, he, hb, rfl⟩ := bindsOn_iff.1 hj
        exact hall e he hb
      · intro j oj hj hb
        cases hL : fl listed j with
        | false => rfl
        | true =>
          have h1 := hcl j oj hj hL i hb
          have h2 : fl listed i = true := h1
          simp [fl, hlt, h0'] at h2
    have hino : operIn n ro.isSome ops o = true := by
      rw [List.all_eq_true] at hin
      exact hin o (by simpa using Array.mem_of_getElem? ho)
    refine wpOpIn_of_I hino ho (hop i o ho _ σ w hup hS) fun v w' hw' => ?_
    rw [act_put (operIn_dst hino)]
    refine wpAnyIn_of_I hf hin hop hQ f _ _ _ (by simpa using hsz) (by rw [fl_set hlt]; exact clo_on hcl ho hup.did) ?_ (by rw [fl_set hlt]; exact hw')
    rw [Array.toList_setIfInBounds, List.count_set]
    · have hb : listed.toList[i]'(by simpa using hlt) = false := by simpa using h0'
      have hpos : 0 < listed.toList.count false := List.count_pos_iff.2 (by rw [← hb]; exact List.getElem_mem _)
      rw [hb]; simp only [beq_self_eq_true, if_true]; simp; rw [Array.count_toList] at *; omega
    · simpa using hlt
/-- a region that draws, within whatever round -/
theorem wcdrawir [hm : Mix P] {id : Nat} {ops : List Oper} (S : (Nat → Bool) → Env → World → Prop) (h0 : ∀ wd, Frm w wd → S (fun _ => false) σ wd) (hop : StepsI P ops.toArray S 0 ops)
    (hend : ∀ L σ' w', (∀ k, k < ops.length → L k = true) → S L σ' w' → Q .normal ds σ' w') (hf : fwdB ops.toArray = true := by kernel_rfl) : WC P n ds (.region id ops.toArray true) Q σ w := by
  unfold WC
  intro hin
  have hin' : ops.all (operIn n ds.ro.isSome ops.toArray) = true := by simpa [codeIn] using hin
  refine wpIn_region_any hm.ok ?_
  have e0 : fl (Array.replicate ops.toArray.size false) = fun _ => false := by funext k; exact getD_replicate_false _ _
  refine wpAnyIn_of_I (S := S) (n := n) hf (by simpa using hin') (fun k o ho => ?_) ?_ _ _ _ _ (by simp) ?_ ?_ ?_
  · have := stepsI_get hop k o (by simpa using ho)
    rwa [Nat.zero_add] at this
  · intro L σ' w' hL hS
    exact ⟨ds.ds, σ', rfl, hend L σ' w' (by simpa using hL) hS⟩
  · rw [e0]; intro j oj _ hL; cases hL
  · simp
  · rw [e0]; exact h0 _ (Frm.drawn (Frm.refl w))
end
/-- what an operation leaves: its value, and where what it made lies -/
structure PD (X : Type) where
  v : Value
  p : Option Addr
  c : Nat
  b : Nat
  x : X
structure PlanB (X : Type) where
  pl : Nat → PD X → List Plot
  con : Nat → Option Nat
  base : Nat → List Plot
  fact : Nat → (Nat → PD X) → Prop
section
variable {X : Type}
def PlanB.live (p : PlanB X) (L : Nat → Bool) (j : Nat) : Bool := L j && (match p.con j with | some c => !L c | none => true)
def PlanB.mem (p : PlanB X) (n : Nat) (L : Nat → Bool) (a : Nat → PD X) : List Plot := ((List.range n).filter (p.live L)).flatMap fun j => p.pl j (a j)
/-- what operation k takes -/
def PlanB.takes (p : PlanB X) (n k : Nat) (a : Nat → PD X) : List Plot := ((List.range n).filter fun j => decide (p.con j = some k)).flatMap fun j => p.pl j (a j)
/-- what lay there before and is still to be taken -/
def PlanB.bmem (p : PlanB X) (n : Nat) (L : Nat → Bool) : List Plot := ((List.range n).filter fun j => !L j).flatMap p.base
def PlanB.S (p : PlanB X) (w0 : World) (cs : List Plot) (σ0 : Env) (ops : List Oper) (L : Nat → Bool) (σ : Env) (w : World) : Prop :=
  (∀ s, (∀ (k : Nat) (o : Oper), ops[k]? = some o → L k = true → o.dst ≠ some s) → σ s = σ0 s) ∧
  ∃ a : Nat → PD X, (∀ (k : Nat) (o : Oper), ops[k]? = some o → L k = true → (∀ d, o.dst = some d → σ d = (a k).v) ∧ p.fact k a) ∧ Sep w0 w (p.mem ops.length L a ++ (p.bmem ops.length L ++ cs))
/-- what k can see of what is to be taken by those that wait for it -/
def seesB (ops : List Oper) (k j : Nat) : Bool := decide (j ≠ k) && (match ops[j]? with | some oj => bindsOn oj k | none => false)
def PlanB.seen (p : PlanB X) (ops : List Oper) (k : Nat) : List Plot := ((List.range ops.length).filter (seesB ops k)).flatMap p.base
/-- how operation k goes, by the plan -/
def PlanB.Rule (p : PlanB X) (P : Program) (w0 : World) (cs : List Plot) (σ0 : Env) (ops : List Oper) (k : Nat) (o : Oper) : Prop :=
  ∀ (a : Nat → PD X) (σ : Env) (w : World) (rest : List Plot), (∀ s, (∀ (j : Nat) (o : Oper), ops[j]? = some o → j ≠ k → bindsOn o k = false → o.dst ≠ some s) → σ s = σ0 s) →
    (∀ (j : Nat) (oj : Oper), bindsOn o j = true → ops[j]? = some oj → (∀ d, oj.dst = some d → σ d = (a j).v) ∧ p.fact j a) → Sep w0 w (p.takes ops.length k a ++ (p.base k ++ (p.seen ops k ++ (cs ++ rest)))) →
    (Region.wanted o (yl ops.toArray σ) = true ∧ comes P (fun v w' => ∃ d, v = d.v ∧ p.fact k (setD a k d) ∧ Sep w0 w' (p.pl k d ++ (p.seen ops k ++ (cs ++ rest)))) ((execOp (evl σ) o).run P w)) ∨
    (Region.wanted o (yl ops.toArray σ) = false ∧ ∃ d, undef = d.v ∧ p.fact k (setD a k d) ∧ Sep w0 w (p.pl k d ++ (p.seen ops k ++ (cs ++ rest))))
def PlanB.Rules (p : PlanB X) (P : Program) (w0 : World) (cs : List Plot) (σ0 : Env) (ops : List Oper) : Nat → List Oper → Prop
  | _, [] => True
  | k, o :: l => p.Rule P w0 cs σ0 ops k o ∧ p.Rules P w0 cs σ0 ops (k + 1) l
theorem planb_step {p : PlanB X} {P : Program} {w0 : World} {cs : List Plot} {σ0 : Env} {ops : List Oper} (hB : planB p.con ops = true)
    (hF : ∀ (j : Nat) (oj : Oper) (a a' : Nat → PD X), ops[j]? = some oj → a j = a' j → (∀ i, bindsOn oj i = true → a i = a' i) → p.fact j a → p.fact j a') {k : Nat} {o : Oper} (hk : ops[k]? = some o) (h : p.Rule P w0 cs σ0 ops k o) : StepI P ops.toArray (p.S w0 cs σ0 ops) k o := by
  rintro L σ w hu ⟨hσ, a, hA, hS⟩
  have hkn : k < ops.length := by
    rcases Nat.lt_or_ge k ops.length with h | h
    · exact h
    · rw [List.getElem?_eq_none h] at hk; cases hk
  have hcon : ∀ j c, j < ops.length → p.con j = some c → ∃ oc, ops[c]? = some oc ∧ bindsOn oc j = true := by
    intro j c hj hc
    have := List.all_eq_true.1 hB j (List.mem_range.2 hj)
    rw [Bool.and_eq_true, hc] at this
    have h1 := this.1
    simp only [Bool.and_eq_true, decide_eq_true_eq] at h1
    rw [List.getElem?_eq_getElem h1.1] at h1
    exact ⟨_, List.getElem?_eq_getElem h1.1, h1.2⟩
  have hdst : ∀ (i j : Nat) (oi oj : Oper) (d : Nat), ops[i]? = some oi → ops[j]? = some oj → i ≠ j → oi.dst = some d → oj.dst ≠ some d := by
    intro i j oi oj d hi hj hne hd
    have hjn : j < ops.length := (List.getElem?_eq_some_iff.1 hj).1
    have hin : i < ops.length := (List.getElem?_eq_some_iff.1 hi).1
    have := List.all_eq_true.1 hB j (List.mem_range.2 hjn)
    rw [Bool.and_eq_true] at this
    have := List.all_eq_true.1 this.2 i (List.mem_range.2 hin)
    rw [hi, hj] at this
    simp only [hne, decide_false, Bool.false_or, hd, decide_eq_true_eq] at this
    exact this
  -- what k takes, and the rest
  let q : Nat → Bool := fun j => p.live L j && !decide (p.con j = some k)
  let rest0 : List Plot := ((List.range ops.length).filter q).flatMap fun j => p.pl j (a j)
  let bm : List Plot := p.bmem ops.length (on L k)
  let bm2 : List Plot := (((List.range ops.length).filter fun j => !(on L k) j).filter fun j => !(seesB ops k j)).flatMap p.base
  let rest : List Plot := rest0 ++ bm2
  have hsee : bm.Perm (p.seen ops k ++ bm2) := by
    have h2 := List.filter_append_perm (seesB ops k) ((List.range ops.length).filter fun j => !(on L k) j)
    have h3 : ((List.range ops.length).filter fun j => !(on L k) j).filter (seesB ops k) = (List.range ops.length).filter (seesB ops k) := by
      rw [List.filter_filter]
      refine List.filter_congr fun j hj => ?_
      cases hs : seesB ops k j with
      | false => rfl
      | true =>
        unfold seesB at hs
        rw [Bool.and_eq_true, decide_eq_true_eq] at hs
        obtain ⟨hne, hs⟩ := hs
        cases ho : ops[j]? with
        | none => rw [ho] at hs; cases hs
        | some oj =>
          rw [ho] at hs
          have := hu.ahead j oj (by simpa using ho) hs
          simp [on_ne L hne, this]
    rw [h3] at h2
    have h4 := h2.symm.flatMap_right p.base
    rw [List.flatMap_append] at h4
    exact h4
  have hbm : (p.bmem ops.length L).Perm (p.base k ++ bm) := by
    have hl : (List.range ops.length).filter (fun j => !L j) = (List.range ops.length).filter fun j => decide (j = k) || !(on L k) j := by
      refine List.filter_congr fun j hj => ?_
      by_cases e : j = k
      · subst e; simp [hu.now]
      · simp [e, on_ne L e]
    show (((List.range ops.length).filter fun j => !L j).flatMap p.base).Perm _
    rw [hl]
    refine ((filter_insert (q := fun j => !(on L k) j) (by simp [on_same]) List.nodup_range (List.mem_range.2 hkn)).flatMap_right p.base).trans ?_
    rw [List.flatMap_cons]
    exact List.Perm.refl _
  have htake : (List.range ops.length).filter (fun j => p.live L j && decide (p.con j = some k)) = (List.range ops.length).filter fun j => decide (p.con j = some k) := by
    refine List.filter_congr fun j hj => ?_
    by_cases hc : p.con j = some k
    · obtain ⟨oc, ho, hb⟩ := hcon j k (List.mem_range.1 hj) hc
      rw [hk] at ho
      injection ho with ho
      subst ho
      have h1 := hu.did j hb
      simp [PlanB.live, hc, h1, hu.now]
    · simp [hc]
  have hperm : (p.mem ops.length L a ++ (p.bmem ops.length L ++ cs)).Perm (p.takes ops.length k a ++ (p.base k ++ (p.seen ops k ++ (cs ++ rest)))) := by
    have h1 : ((List.range ops.length).filter fun j => decide (p.con j = some k)) ++ ((List.range ops.length).filter q) |>.Perm ((List.range ops.length).filter (p.live L)) := by
      have h2 := List.filter_append_perm (fun j => decide (p.con j = some k)) ((List.range ops.length).filter (p.live L))
      rw [List.filter_filter, List.filter_filter] at h2
      rw [← htake]
      refine List.Perm.trans ?_ h2
      refine List.Perm.append (List.Perm.of_eq (List.filter_congr fun j _ => Bool.and_comm _ _)) (List.Perm.of_eq (List.filter_congr fun j _ => Bool.and_comm _ _))
    have h3 := (h1.symm.flatMap_right fun j => p.pl j (a j))
    rw [List.flatMap_append] at h3
    exact (h3.append ((hbm.trans (List.Perm.append_left _ hsee)).append_right cs)).trans (perm6 _ _ _ _ _ _)
  have hlive : ∀ d, (p.mem ops.length (on L k) (setD a k d)).Perm (p.pl k d ++ rest0) := by
    intro d
    have hq : q k = false := by simp [q, PlanB.live, hu.now]
    have hl : (List.range ops.length).filter (p.live (on L k)) = (List.range ops.length).filter fun j => decide (j = k) || q j := by
      refine List.filter_congr fun j hj => ?_
      by_cases e : j = k
      · subst e
        have : (match p.con j with | some c => !(on L j c) | none => true) = true := by
          cases hc : p.con j with
          | none => rfl
          | some c =>
            obtain ⟨oc, ho, hb⟩ := hcon j c hkn hc
            have h1 := hu.ahead c oc (by simpa using ho) hb
            have hne : c ≠ j := by
              intro e
              subst e
              rw [hk] at ho
              injection ho with ho
              subst ho
              have := hu.did c hb
              rw [hu.now] at this
              cases this
            simp [on_ne L hne, h1]
        simp only [PlanB.live, on_same, this, Bool.and_self, decide_true, Bool.true_or]
      · simp only [PlanB.live, on_ne L e, decide_eq_false e, Bool.false_or, q]
        cases hc : p.con j with
        | none => simp
        | some c =>
          by_cases ec : c = k
          · subst ec; simp [on_same]
          · have : ¬ (some c = some k) := fun h => ec (Option.some.inj h)
            simp [on_ne L ec, this]
    unfold PlanB.mem
    rw [hl]
    refine ((filter_insert hq List.nodup_range (List.mem_range.2 hkn)).flatMap_right fun j => p.pl j (setD a k d j)).trans ?_
    rw [List.flatMap_cons, setD_same]
    refine List.Perm.append_left _ (List.Perm.of_eq ?_)
    show _ = List.flatMap (fun j => p.pl j (a j)) (List.filter q (List.range ops.length))
    rw [List.flatMap_def, List.flatMap_def]
    refine congrArg _ (List.map_congr_left fun j hj => ?_)
    have : j ≠ k := by
      rintro rfl
      have := (List.mem_filter.1 hj).2
      rw [hq] at this; cases this
    rw [setD_ne a d this]
  have hnew : ∀ d w', p.fact k (setD a k d) → Sep w0 w' (p.pl k d ++ (p.seen ops k ++ (cs ++ rest))) → p.S w0 cs σ0 ops (on L k) (updO σ o.dst (d.v)) w' := by
    intro d w' hf hS'
    refine ⟨fun s hs => ?_, setD a k d, fun j oj hj hL => ?_, ?_⟩
    · have h1 := hs k o hk (on_same L k)
      have hs' : ∀ (j : Nat) (oj : Oper), ops[j]? = some oj → L j = true → oj.dst ≠ some s := fun j oj hj hL => hs j oj hj (by
        by_cases e : j = k
        · subst e; exact on_same L j
        · rw [on_ne L e]; exact hL)
      cases hd : o.dst with
      | none => exact hσ s hs'
      | some dd =>
        rw [hd] at h1
        exact (upd_ne σ _ (fun e => h1 (by rw [e]))).trans (hσ s hs')
    · by_cases e : j = k
      · subst e
        rw [hk] at hj
        injection hj with hj
        subst hj
        refine ⟨fun dd hd => ?_, hf⟩
        rw [hd, setD_same]
        exact upd_same σ dd _
      · rw [on_ne L e] at hL
        obtain ⟨h1, h2⟩ := hA j oj hj hL
        refine ⟨fun dd hd => ?_, ?_⟩
        · rw [setD_ne a d e, ← h1 dd hd]
          cases hdo : o.dst with
          | none => rfl
          | some d2 =>
            have := hdst k j o oj d2 hk hj (fun e2 => e e2.symm) hdo
            exact upd_ne σ _ (fun e2 => this (by rw [hd, e2]))
        · refine hF j oj a _ hj (setD_ne a d e).symm (fun i hi => ?_) h2
          have : i ≠ k := by
            rintro rfl
            have := hu.ahead j oj (by simpa using hj) hi
            rw [this] at hL; cases hL
          exact (setD_ne a d this).symm
    · refine hS'.perm ?_
      exact (perm7 _ _ _ _ _).trans ((hlive d).symm.append (hsee.symm.append_right cs))
  rcases h a σ w rest (fun s hs => hσ s fun j oj hj hL => hs j oj hj (fun e => by rw [e, hu.now] at hL; cases hL) (by
      cases hb : bindsOn oj k with
      | false => rfl
      | true => have := hu.ahead j oj (by simpa using hj) hb; rw [this] at hL; cases hL)) (fun j oj hb hj => hA j oj hj (hu.did j hb)) (hS.perm hperm) with ⟨h1, h2⟩ | ⟨h1, d, h2, h3, h4⟩
  · refine .inl ⟨h1, comes_mono (fun v w' => ?_) h2⟩
    rintro ⟨d, rfl, hf, hS'⟩
    exact hnew d w' hf hS'
  · refine .inr ⟨h1, ?_⟩
    rw [h2]
    exact hnew d w h3 h4
theorem planb_steps {p : PlanB X} {P : Program} {w0 : World} {cs : List Plot} {σ0 : Env} {ops : List Oper} (hB : planB p.con ops = true)
    (hF : ∀ (j : Nat) (oj : Oper) (a a' : Nat → PD X), ops[j]? = some oj → a j = a' j → (∀ i, bindsOn oj i = true → a i = a' i) → p.fact j a → p.fact j a') : ∀ (l : List Oper) (k : Nat), (∀ j o, l[j]? = some o → ops[k + j]? = some o) → p.Rules P w0 cs σ0 ops k l → StepsI P ops.toArray (p.S w0 cs σ0 ops) k l
  | [], _, _, _ => trivial
  | o :: l, k, hl, hr => ⟨planb_step hB hF (by simpa using hl 0 o rfl) hr.1, planb_steps hB hF l (k + 1) (fun j o' h => by rw [show k + 1 + j = k + (j + 1) from by omega]; exact hl (j + 1) o' (by simpa using h)) hr.2⟩
/-- a region that draws, by a plan -/
theorem wcplanb {P : Program} [hm : Mix P] {n : Nat} {ds : Ctx} {Q : Exit → Ctx → Env → World → Prop} {σ : Env} {w w0 : World} {id : Nat} {ops : List Oper} {cs b : List Plot} (p : PlanB X) (d0 : PD X) (hS : Sep w0 w (b ++ cs)) (hb : (List.range ops.length).flatMap p.base = b)
    (hF : ∀ (j : Nat) (oj : Oper) (a a' : Nat → PD X), ops[j]? = some oj → a j = a' j → (∀ i, bindsOn oj i = true → a i = a' i) → p.fact j a → p.fact j a')
    (hR : p.Rules P w0 cs σ ops 0 ops)
    (hend : ∀ (a : Nat → PD X) σ' w', (∀ s, (∀ (k : Nat) (o : Oper), ops[k]? = some o → o.dst ≠ some s) → σ' s = σ s) → (∀ (k : Nat) (o : Oper), ops[k]? = some o → (∀ d, o.dst = some d → σ' d = (a k).v) ∧ p.fact k a) →
      Sep w0 w' (((List.range ops.length).filter fun j => (p.con j).isNone).flatMap (fun j => p.pl j (a j)) ++ cs) → Q .normal ds σ' w')
    (hB : planB p.con ops = true := by kernel_rfl) (hf : fwdB ops.toArray = true := by kernel_rfl) : WC P n ds (.region id ops.toArray true) Q σ w := by
  refine wcdrawir (p.S w0 cs σ ops) (fun wd hwd => ⟨fun _ _ => rfl, fun _ => d0, fun _ _ _ h => absurd h Bool.false_ne_true, ?_⟩) (planb_steps hB hF ops 0 (fun j o h => by rwa [Nat.zero_add]) hR) ?_ hf
  · have e : p.mem ops.length (fun _ => false) (fun _ => d0) = [] := by
      unfold PlanB.mem
      rw [List.filter_eq_nil_iff.2 (by intro j _; simp [PlanB.live])]
      rfl
    have e2 : p.bmem ops.length (fun _ => false) = b := by
      rw [← hb]; unfold PlanB.bmem
      rw [List.filter_eq_self.2 (by intro j _; rfl)]
    rw [e, e2]
    exact hS.grow hwd
  · rintro L σ' w' hL ⟨hσ, a, hA, hS'⟩
    refine hend a σ' w' (fun s hs => hσ s fun k o hk _ => hs k o hk) (fun k o hk => hA k o hk (hL k (List.getElem?_eq_some_iff.1 hk).1)) ?_
    have e2 : p.bmem ops.length L = [] := by
      unfold PlanB.bmem
      rw [List.filter_eq_nil_iff.2 (by intro j hj; simp [hL j (List.mem_range.1 hj)])]
      rfl
    rw [e2] at hS'
    refine hS'.perm (List.Perm.append_right _ (List.Perm.of_eq ?_))
    unfold PlanB.mem
    congr 1
    refine List.filter_congr fun j hj => ?_
    have h1 := hL j (List.mem_range.1 hj)
    simp only [PlanB.live, h1, Bool.true_and]
    cases hc : p.con j with
    | none => rfl
    | some c =>
      have := List.all_eq_true.1 hB j hj
      rw [Bool.and_eq_true, hc] at this
      have h2 := this.1
      simp only [Bool.and_eq_true, decide_eq_true_eq] at h2
      simp [hL c h2.1]
end
theorem notDstB {ops : List Oper} {s k : Nat} (h : ((List.range ops.length).all fun j => match ops[j]? with | some o => decide (j = k) || bindsOn o k || decide (o.dst ≠ some s) | none => true) = true) :
    ∀ (j : Nat) (o : Oper), ops[j]? = some o → j ≠ k → bindsOn o k = false → o.dst ≠ some s := fun j o hj hne hb => by
  have := List.all_eq_true.1 h j (List.mem_range.2 (List.getElem?_eq_some_iff.1 hj).1)
  rw [hj] at this
  simpa [hne, hb] using this
end Go.Sv

/-
  Package raw: Where, New, End, Whole, Safe.
-/
set_option linter.unusedSimpArgs false
set_option linter.unusedVariables false
set_option linter.unnecessarySimpa false
namespace Go.Proofs.YtkclldfejembnaaDoor
open Go Go.Sv Go.RowKit

/-- script, plaintext -/
def scrN : List UInt8 := [115, 99, 114, 105, 112, 116]
def ptxN : List UInt8 := [112, 108, 97, 105, 110, 116, 101, 120, 116]
def whereR (n : List UInt8) : Nat := if inSet 2 n = true then 1 else if inSet 3 n = true then 2 else if n = scrN then 3 else if n = ptxN then 4 else 0
theorem Sc.Ok.mono {s : Sc} {n m : Nat} (h : s.Ok n) (hm : n ≤ m) : s.Ok m := ⟨Nat.le_trans h.1 hm, h.2, h.3, h.4, h.5, h.6⟩
theorem where_ok (name : List UInt8) (w : World) (hA : Asc w) : PureC Tryd.prog 28 #[str name] w (int (whereR name)) := by
  refine enter (l := [str name]) Tryd.func28 rfl Tryd.ntmps28 (by kernel_rfl) rfl ?_
  have h2 := fun w (hA : Asc w) => inK_ok 2 (by decide) name w hA
  have h3 := fun w (hA : Asc w) => inK_ok 3 (by decide) name w hA
  unfold whereR
  generalize inSet 2 name = g2 at *
  generalize inSet 3 name = g3 at *
  refine sgo ?_
  refine wlpure (h2 _ hA) fun w1 hf1 => ?_
  replace hA := hA.frm hf1
  refine sgo ?_
  (show WC _ _ _ _ _ _ _; first | refine WC_dec rfl (fun hc => ?_) (fun hc => ?_) | refine WC_cond rfl (fun hc => ?_) (fun hc => ?_))
  · rw [if_pos hc]
    refine sgo ?_
    (first | refine fp1 (.inl rfl) rfl rfl ?_ | refine fp2 (.inl rfl) rfl rfl rfl ?_ | refine fp3 (.inl rfl) rfl rfl rfl rfl ?_ | refine fp0 (.inr rfl) rfl ?_ | refine fp0 (.inl rfl) rfl ?_ | refine fp1 (.inr rfl) rfl rfl ?_); refine ⟨?_, by (first | exact Frm.refl _ | assumption | exact Go.Sv.Sep.frm (by assumption) | (refine Frm.trans ?_ (by assumption); first | exact Frm.refl _ | assumption))⟩; (try simp only [realB, rv_true, Nat.reduceBEq, cond_true, cond_false, entG, real_lif, updGL])
    rfl
  rw [if_neg (by simp [hc])]
  clear hc
  refine sgo ?_
  refine wlpure (h3 _ hA) fun w2 hf2 => ?_
  refine sgo ?_
  have hf := hf1.trans hf2
  clear hf1 hf2
  (show WC _ _ _ _ _ _ _; first | refine WC_dec rfl (fun hc => ?_) (fun hc => ?_) | refine WC_cond rfl (fun hc => ?_) (fun hc => ?_))
  · rw [if_pos hc]
    refine sgo ?_
    (first | refine fp1 (.inl rfl) rfl rfl ?_ | refine fp2 (.inl rfl) rfl rfl rfl ?_ | refine fp3 (.inl rfl) rfl rfl rfl rfl ?_ | refine fp0 (.inr rfl) rfl ?_ | refine fp0 (.inl rfl) rfl ?_ | refine fp1 (.inr rfl) rfl rfl ?_); refine ⟨?_, by (first | exact Frm.refl _ | assumption | exact Go.Sv.Sep.frm (by assumption) | (refine Frm.trans ?_ (by assumption); first | exact Frm.refl _ | assumption))⟩; (try simp only [realB, rv_true, Nat.reduceBEq, cond_true, cond_false, entG, real_lif, updGL])
    rfl
  rw [if_neg (by simp [hc])]
  clear hc
  refine sgo ?_
  (show WC _ _ _ _ _ _ _; first | refine WC_dec rfl (fun hc => ?_) (fun hc => ?_) | refine WC_cond rfl (fun hc => ?_) (fun hc => ?_))
  · rw [if_pos (show name = scrN from hc)]
    refine sgo ?_
    (first | refine fp1 (.inl rfl) rfl rfl ?_ | refine fp2 (.inl rfl) rfl rfl rfl ?_ | refine fp3 (.inl rfl) rfl rfl rfl rfl ?_ | refine fp0 (.inr rfl) rfl ?_ | refine fp0 (.inl rfl) rfl ?_ | refine fp1 (.inr rfl) rfl rfl ?_); refine ⟨?_, by (first | exact Frm.refl _ | assumption | exact Go.Sv.Sep.frm (by assumption) | (refine Frm.trans ?_ (by assumption); first | exact Frm.refl _ | assumption))⟩; (try simp only [realB, rv_true, Nat.reduceBEq, cond_true, cond_false, entG, real_lif, updGL])
    rfl
  rw [if_neg (show ¬ name = scrN from hc)]
  clear hc
  refine sgo ?_
  (show WC _ _ _ _ _ _ _; first | refine WC_dec rfl (fun hc => ?_) (fun hc => ?_) | refine WC_cond rfl (fun hc => ?_) (fun hc => ?_))
  · rw [if_pos (show name = ptxN from hc)]
    refine sgo ?_
    (first | refine fp1 (.inl rfl) rfl rfl ?_ | refine fp2 (.inl rfl) rfl rfl rfl ?_ | refine fp3 (.inl rfl) rfl rfl rfl rfl ?_ | refine fp0 (.inr rfl) rfl ?_ | refine fp0 (.inl rfl) rfl ?_ | refine fp1 (.inr rfl) rfl rfl ?_); refine ⟨?_, by (first | exact Frm.refl _ | assumption | exact Go.Sv.Sep.frm (by assumption) | (refine Frm.trans ?_ (by assumption); first | exact Frm.refl _ | assumption))⟩; (try simp only [realB, rv_true, Nat.reduceBEq, cond_true, cond_false, entG, real_lif, updGL])
    rfl
  rw [if_neg (show ¬ name = ptxN from hc)]
  clear hc
  refine sgo ?_
  (first | refine fp1 (.inl rfl) rfl rfl ?_ | refine fp2 (.inl rfl) rfl rfl rfl ?_ | refine fp3 (.inl rfl) rfl rfl rfl rfl ?_ | refine fp0 (.inr rfl) rfl ?_ | refine fp0 (.inl rfl) rfl ?_ | refine fp1 (.inr rfl) rfl rfl ?_); refine ⟨?_, by (first | exact Frm.refl _ | assumption | exact Go.Sv.Sep.frm (by assumption) | (refine Frm.trans ?_ (by assumption); first | exact Frm.refl _ | assumption))⟩; (try simp only [realB, rv_true, Nat.reduceBEq, cond_true, cond_false, entG, real_lif, updGL])
  rfl
def scP0 : ScP := ⟨none, 0, none, 0, none, 0⟩
theorem new_ok (name : List UInt8) (w0 w : World) (cs : List Plot) (hS : Sep w0 w cs) (hA : Asc w) :
    CallsR Tryd.prog 14 #[str name] w fun v w' => (whereR name = 0 ∧ v = .tuple #[.pointer none, int 100] ∧ Sep w0 w' cs) ∨ (whereR name ≠ 0 ∧ ∃ b, v = .tuple #[ptrAt (pb b) 0, int 0] ∧ Sep w0 w' (scPlots b name (whereR name) sc0 scP0 cs)) := by
  refine enter (l := [str name]) Tryd.func14 rfl Tryd.ntmps14 (by kernel_rfl) rfl ?_
  refine sgo ?_
  refine wlpure (where_ok name _ hA) fun w1 hf1 => ?_
  replace hS := hS.grow hf1
  refine sgo ?_
  (show WC _ _ _ _ _ _ _; first | refine WC_dec rfl (fun hc => ?_) (fun hc => ?_) | refine WC_cond rfl (fun hc => ?_) (fun hc => ?_))
  · refine sgo ?_
    (first | refine fp1 (.inl rfl) rfl rfl ?_ | refine fp2 (.inl rfl) rfl rfl rfl ?_ | refine fp3 (.inl rfl) rfl rfl rfl rfl ?_ | refine fp0 (.inr rfl) rfl ?_ | refine fp0 (.inl rfl) rfl ?_ | refine fp1 (.inr rfl) rfl rfl ?_)
    exact .inl ⟨by omega, rfl, hS⟩
  · refine sgo ?_
    refine wlbuild ?_
    refine sbox hS fun b w2 hS => ?_
    refine sgo ?_
    (first | refine fp1 (.inl rfl) rfl rfl ?_ | refine fp2 (.inl rfl) rfl rfl rfl ?_ | refine fp3 (.inl rfl) rfl rfl rfl rfl ?_ | refine fp0 (.inr rfl) rfl ?_ | refine fp0 (.inl rfl) rfl ?_ | refine fp1 (.inr rfl) rfl rfl ?_)
    refine .inr ⟨by omega, b, rfl, ?_⟩
    replace hS : Sep w0 w2 (pOwn b [str name, int (whereR name), .slice none 0 0, .slice none 0 0, .slice none 0 0, int 0, int 0, i32 0, .bool false, .bool false, .bool true] :: cs) := hS
    exact (((hS.nilRow 1).nilRow 1).nilRow 1).front 3 rfl
def endP (b : Nat) (name : List UInt8) (wh : Nat) (s : Sc) (q : ScP) : PlanB Unit where
  pl k d := match k with
    | 9 => [pRow 1 d.p (s.sure.length + s.held.length) d.c (rs32 s.sure ++ rs32 s.held)]
    | 12 => [pOwn b [str name, int wh, .slice d.p (s.sure.length + s.held.length) d.c, .slice q.ph s.held.length q.ch, .slice q.pt s.tail.length q.ct, int s.part, int s.dash, i32 s.last, .bool false, .bool s.ended, .bool true]]
    | _ => []
  con k := match k with
    | _ => none
  base k := match k with
    | 9 => [pRow 1 q.ps s.sure.length q.cs (rs32 s.sure)]
    | 12 => [pOwn b [str name, int wh, .slice q.ps s.sure.length q.cs, .slice q.ph s.held.length q.ch, .slice q.pt s.tail.length q.ct, int s.part, int s.dash, i32 s.last, .bool false, .bool s.ended, .bool true]]
    | _ => []
  fact k a := match k with
    | 0 => (a 0).v = ptrAt (pb b) 0
    | 1 => (a 1).v = ptrAt (pb b) 0
    | 2 => (a 2).v = ptrAt (pb b) 0
    | 3 => (a 3).v = ptrAt (pb b) 2
    | 4 => (a 4).v = .slice q.ps s.sure.length q.cs
    | 5 => (a 5).v = ptrAt (pb b) 0
    | 6 => (a 6).v = ptrAt (pb b) 0
    | 7 => (a 7).v = ptrAt (pb b) 3
    | 8 => (a 8).v = .slice q.ph s.held.length q.ch
    | 9 => (a 9).v = .slice (a 9).p (s.sure.length + s.held.length) (a 9).c
    | 10 => (a 10).v = ptrAt (pb b) 0
    | 11 => (a 11).v = ptrAt (pb b) 2
    | 12 => (a 12).p = (a 9).p ∧ (a 12).c = (a 9).c
    | _ => True
set_option maxHeartbeats 2000000 in
theorem rawEnd_ok (b : Nat) (name : List UInt8) (wh : Nat) (s : Sc) (q : ScP) (n : Nat) (ho : s.Ok n) (hn : n ≤ 1073741824) (hv : s.over = false) (w0 w : World) (cs : List Plot) (hS : Sep w0 w (scPlots b name wh s q cs)) :
    CallsR Tryd.prog 20 #[ptrAt (pb b) 0] w fun v w' => ∃ q', v = int 0 ∧ Sep w0 w' (scPlots b name wh { s with sure := s.sure ++ s.held, held := [], over := true } q' cs) := by
  have hlen := ho.1
  refine enter (l := [ptrAt (pb b) 0]) Tryd.func20 rfl Tryd.ntmps20 (by kernel_rfl) rfl ?_
  refine sgo ?_
  refine wlpure (is_ok b name wh s q w0 _ cs hS) fun w1 hf1 => ?_
  replace hS := hS.grow hf1
  unfold scPlots at hS ⊢
  rw [hv] at hS
  refine sgo ?_
  replace hS := hS.front 1 rfl
  refine wcplanb (b := [pRow 1 q.ps s.sure.length q.cs (rs32 s.sure)] ++ [pOwn b [str name, int wh, .slice q.ps s.sure.length q.cs, .slice q.ph s.held.length q.ch, .slice q.pt s.tail.length q.ct, int s.part, int s.dash, i32 s.last, .bool false, .bool s.ended, .bool true]]) (endP b name wh s q) ⟨.nilIface, none, 0, 0, ()⟩ hS rfl (fun j oj a a' hj he hd h => ?_) ⟨?_, ?_, ?_, ?_, ?_, ?_, ?_, ?_, ?_, ?_, ?_, ?_, ?_, trivial⟩ ?_
  · have hjl : j < 13 := (List.getElem?_eq_some_iff.1 hj).1
    match j, hjl with
    | 0, _ | 1, _ | 2, _ | 3, _ | 4, _ | 5, _ | 6, _ | 7, _ | 8, _ | 9, _ | 10, _ | 11, _ => first | (simp only [endP] at h ⊢; rw [← he]; exact h) | exact h
    | 12, _ => simp only [endP] at h ⊢; rw [← he, ← hd 9 (by cases hj; rfl)]; exact h
  · intro a σ' w' rest hσ hdep hS'   -- 0: move; pieces: sees 12 ..
    have e0 : σ' 0 = ptrAt (pb b) 0 := (hσ 0 (notDstB rfl)).trans rfl
    exact rule_e [(0, _)] ⟨e0, trivial⟩ ⟨⟨ptrAt (pb b) 0, none, 0, 0, ()⟩, rfl, rfl, hS'⟩
  · intro a σ' w' rest hσ hdep hS'   -- 1: move; pieces: sees 12 ..
    have e0 : σ' 0 = ptrAt (pb b) 0 := (hσ 0 (notDstB rfl)).trans rfl
    exact rule_e [(0, _)] ⟨e0, trivial⟩ ⟨⟨ptrAt (pb b) 0, none, 0, 0, ()⟩, rfl, rfl, hS'⟩
  · intro a σ' w' rest hσ hdep hS'   -- 2: nilCheck; pieces: sees 12 ..
    have f1 := (hdep 1 _ rfl rfl).2
    have e13 := ((hdep 1 _ rfl rfl).1 13 rfl).trans f1
    exact rule_y (y_nilcheckp e13 ⟨_, rfl⟩) ⟨⟨ptrAt (pb b) 0, none, 0, 0, ()⟩, rfl, rfl, hS'⟩
  · intro a σ' w' rest hσ hdep hS'   -- 3: fieldAddr; pieces: sees 12 ..
    have f2 := (hdep 2 _ rfl rfl).2
    have e14 := ((hdep 2 _ rfl rfl).1 14 rfl).trans f2
    exact rule_y (y_field e14 ⟨_, rfl⟩ (by decide)) ⟨⟨ptrAt (pb b) 2, none, 0, 0, ()⟩, rfl, rfl, hS'⟩
  · intro a σ' w' rest hσ hdep hS'   -- 4: load; pieces: sees 9, sees 12 ..
    have f3 := (hdep 3 _ rfl rfl).2
    have e15 := ((hdep 3 _ rfl rfl).1 15 rfl).trans f3
    exact rule_y (y_load e15 (Sep.sgv hS' 1 rfl) rfl) ⟨⟨.slice q.ps s.sure.length q.cs, none, 0, 0, ()⟩, rfl, rfl, hS'⟩
  · intro a σ' w' rest hσ hdep hS'   -- 5: move; pieces: sees 12 ..
    have e0 : σ' 0 = ptrAt (pb b) 0 := (hσ 0 (notDstB rfl)).trans rfl
    exact rule_e [(0, _)] ⟨e0, trivial⟩ ⟨⟨ptrAt (pb b) 0, none, 0, 0, ()⟩, rfl, rfl, hS'⟩
  · intro a σ' w' rest hσ hdep hS'   -- 6: nilCheck; pieces: sees 12 ..
    have f5 := (hdep 5 _ rfl rfl).2
    have e17 := ((hdep 5 _ rfl rfl).1 17 rfl).trans f5
    exact rule_y (y_nilcheckp e17 ⟨_, rfl⟩) ⟨⟨ptrAt (pb b) 0, none, 0, 0, ()⟩, rfl, rfl, hS'⟩
  · intro a σ' w' rest hσ hdep hS'   -- 7: fieldAddr; pieces: sees 12 ..
    have f6 := (hdep 6 _ rfl rfl).2
    have e18 := ((hdep 6 _ rfl rfl).1 18 rfl).trans f6
    exact rule_y (y_field e18 ⟨_, rfl⟩ (by decide)) ⟨⟨ptrAt (pb b) 3, none, 0, 0, ()⟩, rfl, rfl, hS'⟩
  · intro a σ' w' rest hσ hdep hS'   -- 8: load; pieces: sees 9, sees 12 ..
    have f7 := (hdep 7 _ rfl rfl).2
    have e19 := ((hdep 7 _ rfl rfl).1 19 rfl).trans f7
    exact rule_y (y_load e19 (Sep.sgv hS' 1 rfl) rfl) ⟨⟨.slice q.ph s.held.length q.ch, none, 0, 0, ()⟩, rfl, rfl, hS'⟩
  · intro a σ' w' rest hσ hdep hS'   -- 9: call; pieces: base 9, sees 12 ..
    have f4 := (hdep 4 _ rfl rfl).2
    have e16 := ((hdep 4 _ rfl rfl).1 16 rfl).trans f4
    have f8 := (hdep 8 _ rfl rfl).2
    have e20 := ((hdep 8 _ rfl rfl).1 20 rfl).trans f8
    obtain ⟨p2, c2, w2, hy, hS2⟩ := y_app (P := Tryd.prog) (t := 39) (t' := 39) (ty := 39) (d := some 21) (x := .tmp 16) (y := .tmp 20) (n := s.held.length) hS' 0 (hS'.row 2 rfl).sg rfl e16 e20 (by rw [rs32_length, Nat.mul_one]) (one_rs _) rfl (by decide) (by omega)
    exact rule_y hy ⟨⟨.slice p2 (s.sure.length + s.held.length) c2, p2, c2, 0, ()⟩, rfl, rfl, hS2⟩
  · intro a σ' w' rest hσ hdep hS'   -- 10: nilCheck; pieces:  ..
    have f0 := (hdep 0 _ rfl rfl).2
    have e12 := ((hdep 0 _ rfl rfl).1 12 rfl).trans f0
    exact rule_y (y_nilcheckp e12 ⟨_, rfl⟩) ⟨⟨ptrAt (pb b) 0, none, 0, 0, ()⟩, rfl, rfl, hS'⟩
  · intro a σ' w' rest hσ hdep hS'   -- 11: fieldAddr; pieces: sees 12 ..
    have f10 := (hdep 10 _ rfl rfl).2
    have e22 := ((hdep 10 _ rfl rfl).1 22 rfl).trans f10
    exact rule_y (y_field e22 ⟨_, rfl⟩ (by decide)) ⟨⟨ptrAt (pb b) 2, none, 0, 0, ()⟩, rfl, rfl, hS'⟩
  · intro a σ' w' rest hσ hdep hS'   -- 12: store; pieces: base 12 ..
    have f11 := (hdep 11 _ rfl rfl).2
    have e23 := ((hdep 11 _ rfl rfl).1 23 rfl).trans f11
    have f9 := (hdep 9 _ rfl rfl).2
    have e21 := ((hdep 9 _ rfl rfl).1 21 rfl).trans f9
    obtain ⟨w2, hy, hS2⟩ := y_sst (P := Tryd.prog) (t := 39) (x := .tmp 23) (y := .tmp 21) hS' 0 rfl e23 e21 rfl (Nat.le_of_ble_eq_true rfl) (by simp [Go.Value.cells, Go.Value.oneCell'])
    exact rule_y hy ⟨⟨undef, (a 9).p, (a 9).c, 0, ()⟩, rfl, ⟨rfl, rfl⟩, hS2⟩
  · intro a σ' w' hσ hA' hS'
    have h9 := (hA' 9 _ rfl).2
    have h12 := (hA' 12 _ rfl).2
    rw [frameOf (σ := σ') [(0, ptrAt (pb b) 0)] ⟨(hσ 0 (notDst rfl)).trans rfl, trivial⟩]
    replace hS : Sep w0 w' (pRow 1 (a 9).p (s.sure.length + s.held.length) (a 9).c (rs32 s.sure ++ rs32 s.held) :: pOwn b [str name, int wh, .slice (a 12).p (s.sure.length + s.held.length) (a 12).c, .slice q.ph s.held.length q.ch, .slice q.pt s.tail.length q.ct, int s.part, int s.dash, i32 s.last, .bool false, .bool s.ended, .bool true] ::
      pRow 1 q.ph s.held.length q.ch (rs32 s.held) :: pRow 1 q.pt s.tail.length q.ct (rs32 s.tail) :: cs) := hS'
    rw [h12.1, h12.2] at hS
    generalize (a 9).p = p' at *
    generalize (a 9).c = c' at *
    clear hS' hA' hσ h9 h12
    replace hS := hS.front 1 rfl
    have hn' : s.sure.length + s.held.length = (s.sure ++ s.held).length := by simp
    have hrr : rs32 s.sure ++ rs32 s.held = rs32 (s.sure ++ s.held) := by simp [rs32]
    rw [hrr, hn'] at hS
    refine sgo ?_
    refine sst_slice hS 0 fun w4 hS => ?_
    refine sgo ?_
    refine sst_bool hS 0 fun w4 hS => ?_
    refine sgo ?_
    (first | refine fp1 (.inl rfl) rfl rfl ?_ | refine fp2 (.inl rfl) rfl rfl rfl ?_ | refine fp3 (.inl rfl) rfl rfl rfl rfl ?_ | refine fp0 (.inr rfl) rfl ?_ | refine fp0 (.inl rfl) rfl ?_ | refine fp1 (.inr rfl) rfl rfl ?_)
    replace hS : Sep w0 w4 (pOwn b [str name, int wh, .slice p' (s.sure ++ s.held).length c', .slice none 0 0, .slice q.pt s.tail.length q.ct, int s.part, int s.dash, i32 s.last, .bool true, .bool s.ended, .bool true] ::
      pRow 1 p' (s.sure ++ s.held).length c' (rs32 (s.sure ++ s.held)) :: pRow 1 q.ph s.held.length q.ch (rs32 s.held) :: pRow 1 q.pt s.tail.length q.ct (rs32 s.tail) :: cs) := hS
    refine ⟨⟨p', c', none, 0, q.pt, q.ct⟩, rfl, ?_⟩
    exact ((((hS.drop 2).nilRow 1).front 3 rfl).front 1 rfl |>.front 3 rfl).front 3 rfl
/-- utf.All, with memory in pieces -/
theorem allS_ok (l : List UInt8) (p : Option Addr) (n c : Nat) (hn : n = l.length) (hb : l.length ≤ 1073741824) (w0 w : World) (cs : List Plot) (hS : Sep w0 w cs) (hi : Im [] w p (bs l)) : CallsR Tryd.prog 22 #[.slice p n c] w fun v w' =>
    ∃ b q c, v = .func (.func 33) #[] #[ptrAt (pb b) 0] ∧ l.length ≤ c ∧ Sep w0 w' (pOwn b [.slice q l.length c] :: pRow 1 q l.length c (bs l) :: cs) := by
  subst hn
  have h0 := hS
  replace hS := Sep.start w
  refine enter (l := [.slice p l.length c]) Tryd.func22 rfl Tryd.ntmps22 (by kernel_rfl) rfl ?_
  refine sgo ?_
  refine sbox (v := .slice p l.length c) (hx := rfl) hS fun b w1 hS => ?_
  replace hS : Sep w w1 [pOwn b [.slice p l.length c]] := hS
  refine sgo ?_
  refine sapp0 hS (hi.frm hS.frm).sg (fun q c2 w2 hS => ?_) (hl := by simp) (h1 := one_bs _)
  refine sst_slice hS 1 fun w3 hS => ?_
  refine sgo ?_
  (first | refine fp1 (.inl rfl) rfl rfl ?_ | refine fp2 (.inl rfl) rfl rfl rfl ?_ | refine fp3 (.inl rfl) rfl rfl rfl rfl ?_ | refine fp0 (.inr rfl) rfl ?_ | refine fp0 (.inl rfl) rfl ?_ | refine fp1 (.inr rfl) rfl rfl ?_)
  replace hS : Sep w w3 [pRow 1 q l.length c2 (bs l), pOwn b [.slice q l.length c2]] := hS
  exact ⟨b, q, c2, rfl, (hS.row 0 rfl).le_cap.1, h0.seq (ds := [_, _]) (hS.front 1 rfl)⟩
end Go.Proofs.YtkclldfejembnaaDoor

