/-
  The wp rules of our own, over the kit's Code.wp and wpList: a frame is a function from slots to values.
-/
import Derived.WalkKit
import Derived.Deep.Quiet
import Derived.KernelRfl
namespace Go.Sv
open Go Go.RowKit

/-! ## Frames -/
abbrev Env := Nat → Value
def upd (σ : Env) (d : Nat) (v : Value) : Env := fun t => match Nat.beq t d with | true => v | false => σ t
def updO (σ : Env) (d : Option Nat) (v : Value) : Env := match d with | some d => upd σ d v | none => σ
def act (n : Nat) (ds : List Deferred) (σ : Env) : Act := ⟨Array.ofFn (fun i : Fin n => σ i), ds⟩
def evl (σ : Env) : Operand → Value
  | .tmp t => σ t
  | .const v => v
  | .global g => .pointer (some ⟨g, 0, none⟩)
  | .func f => .func (.func f) #[] #[]

theorem upd_same (σ : Env) (d : Nat) (v : Value) : upd σ d v d = v := by simp [upd, Nat.beq_refl]
theorem upd_ne (σ : Env) {d t : Nat} (v : Value) (h : t ≠ d) : upd σ d v t = σ t := by
  have : Nat.beq t d = false := by
    cases hb : Nat.beq t d
    · rfl
    · exact absurd (Nat.eq_of_beq_eq_true hb) h
  simp [upd, this]
theorem updB (σ : Env) (d : Nat) (v : Value) (t : Nat) : upd σ d v t = bif t == d then v else σ t := by
  by_cases e : t = d
  · subst e; rw [upd_same, beq_self_eq_true, cond_true]
  · rw [upd_ne _ _ e, beq_eq_false_iff_ne.2 e, cond_false]
theorem upd_self {σ : Env} {d : Nat} {v : Value} (h : σ d = v) : upd σ d v = σ := by
  funext t
  by_cases e : t = d
  · subst e; rw [upd_same, h]
  · rw [upd_ne _ _ e]

def opIn (n : Nat) : Operand → Bool
  | .tmp t => Nat.blt t n
  | _ => true
def dstIn (n : Nat) : Option Nat → Bool
  | some d => Nat.blt d n
  | none => true
def operIn (n : Nat) (ops : Array Oper) (o : Oper) : Bool :=
  dstIn n o.dst && o.op.operands.all (opIn n) && (match o.op with | .select .. => false | _ => true) &&
  (match o.guard with | some (j, _) => (match (ops[j]?).bind (·.dst) with | some d => Nat.blt d n | none => true) | none => true)

theorem act_eval {n : Nat} {ds : List Deferred} {σ : Env} {x : Operand} (h : opIn n x = true) : (act n ds σ).eval x = evl σ x := by
  cases x with
  | tmp t =>
    have ht : t < n := by simpa [opIn] using h
    simp [Act.eval, act, evl, ht]
  | _ => rfl

theorem act_put {n : Nat} {ds : List Deferred} {σ : Env} {d : Option Nat} {v : Value} (_h : dstIn n d = true) : (act n ds σ).put d v = act n ds (updO σ d v) := by
  cases d with
  | none => rfl
  | some d =>
    simp only [Act.put, act, updO]
    congr 1
    apply Array.ext
    · simp
    · intro i h1 h2
      simp only [Array.size_setIfInBounds, Array.size_ofFn] at h1
      rw [Array.getElem_setIfInBounds (by simpa using h1)]
      by_cases e : d = i
      · subst e; simp [upd_same]
      · rw [if_neg e]; simp [upd_ne σ v (Ne.symm e)]

theorem act_exec {n : Nat} {ops : Array Oper} {ds : List Deferred} {σ : Env} {o : Oper} (h : operIn n ops o = true) : execOp (act n ds σ).eval o = execOp (evl σ) o := by
  simp only [operIn, Bool.and_eq_true] at h
  refine execOp_congr o (fun cs b hs => ?_) (fun x hx => act_eval ?_)
  · rw [hs] at h; simp at h
  · have := h.1.1.2
    rw [Array.all_eq_true'] at this
    exact this x hx

/-- what a guard sees -/
def yl (ops : Array Oper) (σ : Env) (j : Nat) : Option Bool :=
  match (ops[j]?).bind (·.dst) with
  | some d => (match σ d with | .bool b => some b | _ => none)
  | none => none

theorem act_yielded {n : Nat} {ops : Array Oper} {ds : List Deferred} {σ : Env} {o : Oper} (h : operIn n ops o = true) : Region.wanted o (yielded ops (act n ds σ).tmps) = Region.wanted o (yl ops σ) := by
  simp only [operIn, Bool.and_eq_true] at h
  have h2 := h.2
  unfold Region.wanted
  cases hg : o.guard with
  | none => rfl
  | some p =>
    obtain ⟨j, want⟩ := p
    simp only [hg] at h2
    simp only [yielded, yl]
    cases hd : (ops[j]?).bind (·.dst) with
    | none => rfl
    | some d =>
      simp only [hd] at h2
      have hdn : d < n := by simpa using h2
      simp only [Option.bind_some, act]
      rw [Array.getElem?_eq_getElem (by simpa using hdn)]
      simp only [Array.getElem_ofFn]
      cases σ d <;> rfl

/-! ## One operation: what it yields -/
def Y (P : Program) (σ : Env) (o : Oper) (w : World) (v : Value) (w' : World) : Prop :=
  (execOp (evl σ) o).run P w = .ok (.value v) w' ∨ ((execOp (evl σ) o).run P w = .ok .skip w' ∧ v = undef)

/-! ## Lists of operations -/
def lft (n : Nat) (ds : List Deferred) (Q : Exit → Env → World → Prop) : Exit → Act → World → Prop := fun e a w => ∃ σ, a = act n ds σ ∧ Q e σ w
def WL (P : Program) (n : Nat) (ds : List Deferred) (ops : Array Oper) (Q : Exit → Env → World → Prop) (l : List Oper) (σ : Env) (w : World) : Prop :=
  l.all (operIn n ops) = true → wpList P ops (lft n ds Q) l (act n ds σ) w

theorem operIn_dst {n : Nat} {ops : Array Oper} {o : Oper} (h : operIn n ops o = true) : dstIn n o.dst = true := by
  simp only [operIn, Bool.and_eq_true] at h; exact h.1.1.1

section
variable {P : Program} {n : Nat} {ds : List Deferred} {ops : Array Oper} {Q : Exit → Env → World → Prop} {rest : List Oper} {σ : Env} {w w' : World} {o : Oper} {v : Value}

theorem WL_nil (h : Q .normal σ w) : WL P n ds ops Q [] σ w := fun _ => ⟨σ, rfl, h⟩

theorem WL_want (hg : Region.wanted o (yl ops σ) = true) (hy : Y P σ o w v w') (h : WL P n ds ops Q rest (updO σ o.dst v) w') : WL P n ds ops Q (o :: rest) σ w := by
  intro hin
  simp only [List.all_cons, Bool.and_eq_true] at hin
  have hin1 := hin.1
  have hd := operIn_dst hin1
  refine wpList_step fun K hK => ?_
  rw [act_yielded hin1, hg]
  simp only [if_true]
  unfold Oper.wp
  rw [act_exec hin1]
  rcases hy with hy | ⟨hy, hv⟩
  · rw [hy]; simp only [Oper.upon]; refine hK _ _ ?_; rw [act_put hd]; exact h hin.2
  · rw [hy]; simp only [Oper.upon]; refine hK _ _ ?_; rw [act_put hd, ← hv]; exact h hin.2

theorem WL_step (hg : o.guard = none) (hy : Y P σ o w v w') (h : WL P n ds ops Q rest (updO σ o.dst v) w') : WL P n ds ops Q (o :: rest) σ w :=
  WL_want (by simp [Region.wanted, hg]) hy h

/-- an operation whose guard says no -/
theorem WL_skip (hg : Region.wanted o (yl ops σ) = false) (h : WL P n ds ops Q rest (updO σ o.dst undef) w) : WL P n ds ops Q (o :: rest) σ w := by
  intro hin
  simp only [List.all_cons, Bool.and_eq_true] at hin
  have hin1 := hin.1
  have hd := operIn_dst hin1
  refine wpList_step fun K hK => ?_
  rw [act_yielded hin1, hg]
  simp only [Bool.false_eq_true, if_false]
  refine hK _ _ ?_
  rw [act_put hd]; exact h hin.2

/-- a guarded operation that leaves the world alone, both ways in one -/
theorem WL_guard {b : Bool} (hg : Region.wanted o (yl ops σ) = b) (hy : b = true → Y P σ o w v w) (h : WL P n ds ops Q rest (updO σ o.dst (bif b then v else undef)) w) : WL P n ds ops Q (o :: rest) σ w := by
  cases b with
  | true => exact WL_want hg (hy rfl) h
  | false => exact WL_skip hg h

/-! ## A call of a function by its contract -/
def CallsR (P : Program) (f : FuncId) (args : Array Value) (w : World) (R : Value → World → Prop) : Prop := Calls P f args w fun e w' => ∃ v, e = .returned v ∧ R v w'
theorem CallsR.mono {f : FuncId} {args : Array Value} {R R' : Value → World → Prop} (h : CallsR P f args w R) (hr : ∀ v w', R v w' → R' v w') : CallsR P f args w R' :=
  Calls.mono h fun _ _ ⟨v, he, h⟩ => ⟨v, he, hr _ _ h⟩

/-- a function that is entered as Go code -/
class Fnc (P : Program) (f : FuncId) : Prop where
  ok : ∃ fn, P.funcs[f]? = some fn ∧ (fn.name == "runtime.NumGoroutine") = false ∧ fn.body.isNone = false

theorem run_callFunc {f : FuncId} [hf : Fnc P f] (args : Array Value) (w : World) : (callFunc f args).run P w = .ok (.enter f args) w := by
  obtain ⟨fn, h1, h2, h3⟩ := hf.ok
  simp only [callFunc, Sem.run_bind, run_program, Result.andThen_ok, h1, h2, h3]
  rfl

theorem run_call_func {f : FuncId} [hf : Fnc P f] (σ : Env) (d : Option Tmp) (args : Array Operand) (ats : Array TypeId) (ty : TypeId) (pos : String) (af : Array Edge) (g : Option (Nat × Bool)) (w : World) :
    (execOp (evl σ) ⟨d, .call ⟨.value (.func f), args, ats⟩, ty, pos, af, g⟩).run P w = .ok (.enter f (args.map (evl σ))) w := by
  simp only [execOp, resolve, evl, Deferred.ofValue]
  simp only [Sem.run_bind, Sem.run_pure, Result.andThen_ok, invoke]
  simpa using run_callFunc (P := P) (f := f) (args.map (evl σ)) w

theorem WL_call {f : FuncId} [hf : Fnc P f] {d : Option Tmp} {args : Array Operand} {ats : Array TypeId} {ty : TypeId} {pos : String} {af : Array Edge} {R : Value → World → Prop}
    (hc : CallsR P f (args.map (evl σ)) w R) (h : ∀ v w', R v w' → WL P n ds ops Q rest (updO σ d v) w') :
    WL P n ds ops Q (⟨d, .call ⟨.value (.func f), args, ats⟩, ty, pos, af, none⟩ :: rest) σ w := by
  intro hin
  simp only [List.all_cons, Bool.and_eq_true] at hin
  have hin1 := hin.1
  have hd := operIn_dst hin1
  refine wpList_plain rfl fun K hK => ?_
  unfold Oper.wp
  rw [act_exec hin1, run_call_func]
  simp only [Oper.upon]
  refine Calls.mono hc ?_
  rintro e w' ⟨v, rfl, hR⟩
  refine hK _ _ ?_
  rw [act_put hd]
  exact h v w' hR hin.2

/-- a call whose guard said yes -/
theorem WL_call_want {f : FuncId} [hf : Fnc P f] {d : Option Tmp} {args : Array Operand} {ats : Array TypeId} {ty : TypeId} {pos : String} {af : Array Edge} {g : Option (Nat × Bool)} {R : Value → World → Prop}
    (hg : Region.wanted ⟨d, .call ⟨.value (.func f), args, ats⟩, ty, pos, af, g⟩ (yl ops σ) = true)
    (hc : CallsR P f (args.map (evl σ)) w R) (h : ∀ v w', R v w' → WL P n ds ops Q rest (updO σ d v) w') :
    WL P n ds ops Q (⟨d, .call ⟨.value (.func f), args, ats⟩, ty, pos, af, g⟩ :: rest) σ w := by
  intro hin
  simp only [List.all_cons, Bool.and_eq_true] at hin
  have hin1 := hin.1
  have hd := operIn_dst hin1
  refine wpList_step fun K hK => ?_
  rw [act_yielded hin1, hg]
  simp only [if_true]
  unfold Oper.wp
  rw [act_exec hin1, run_call_func]
  simp only [Oper.upon]
  refine Calls.mono hc ?_
  rintro e w' ⟨v, rfl, hR⟩
  refine hK _ _ ?_
  rw [act_put hd]
  exact h v w' hR hin.2
end

/-! ## Worlds that have grown -/
/-- all blocks of w are in w' as they were -/
def Frm (w w' : World) : Prop := Below w.heap.size w w'
theorem Frm.refl (w : World) : Frm w w := Below.refl _ _
theorem Frm.trans {a b c : World} (h : Frm a b) (k : Frm b c) : Frm a c := Below.trans h (Below.mono k h.size)
theorem Frm.drew {a b : World} (h : Frm a b) : Frm a b.drew := Below.drew h
theorem Frm.drawn {a b : World} (h : Frm a b) : Frm a { b with drawn := b.drawn + 1 } := Below.drew h

/-! ## Regions that draw their order -/
/-- one value in every world of the class, in whatever world of the class -/
def YQ (P : Program) (σ : Env) (o : Oper) (C : World → Prop) (v : Value) : Prop := ∀ w, C w → Oper.quietUpon P C w v ((execOp (evl σ) o).run P w)
def QL (P : Program) (n : Nat) (ds : List Deferred) (ops : Array Oper) (C : World → Prop) (Q : Env → Prop) (l : List Oper) (σ : Env) : Prop :=
  l.all (operIn n ops) = true → wpQuiet P ops C (fun a => ∃ σ', a = act n ds σ' ∧ Q σ') l (act n ds σ)

section
variable {P : Program} {n : Nat} {ds : List Deferred} {ops : Array Oper} {C : World → Prop} {Q : Env → Prop} {rest : List Oper} {σ : Env} {w w' : World} {o : Oper} {v : Value}
theorem YQ.ofY (h : ∀ w, C w → Y P σ o w v w) : YQ P σ o C v := by
  intro w hw
  rcases h w hw with h | ⟨h, hv⟩
  · rw [h]; exact ⟨rfl, rfl⟩
  · rw [h]; exact ⟨rfl, hv⟩
theorem YQ.ofCall {f : FuncId} [hf : Fnc P f] {d : Option Tmp} {args : Array Operand} {ats : Array TypeId} {ty : TypeId} {pos : String} {af : Array Edge} {g : Option (Nat × Bool)}
    (h : ∀ w, C w → CallsR P f (args.map (evl σ)) w fun u w' => u = v ∧ C w') : YQ P σ ⟨d, .call ⟨.value (.func f), args, ats⟩, ty, pos, af, g⟩ C v := by
  intro w hw
  rw [run_call_func]
  refine ⟨rfl, Calls.mono (h w hw) ?_⟩
  rintro e w' ⟨u, rfl, rfl, hC⟩
  exact ⟨rfl, hC⟩

theorem QL_nil (h : Q σ) : QL P n ds ops C Q [] σ := fun _ => wpQuiet_nil ⟨σ, rfl, h⟩
theorem QL_want (hg : Region.wanted o (yl ops σ) = true) (hy : YQ P σ o C v) (h : QL P n ds ops C Q rest (updO σ o.dst v)) : QL P n ds ops C Q (o :: rest) σ := by
  intro hin
  simp only [List.all_cons, Bool.and_eq_true] at hin
  have hin1 := hin.1
  refine wpQuiet_step fun K hK => ?_
  rw [act_yielded hin1, hg, if_pos rfl]
  refine ⟨v, fun w hw => ?_, hK _ ?_⟩
  · unfold Oper.quietAt; rw [act_exec hin1]; exact hy w hw
  · rw [act_put (operIn_dst hin1)]; exact h hin.2
theorem QL_step (hg : o.guard = none) (hy : YQ P σ o C v) (h : QL P n ds ops C Q rest (updO σ o.dst v)) : QL P n ds ops C Q (o :: rest) σ :=
  QL_want (by simp [Region.wanted, hg]) hy h
theorem QL_skip (hg : Region.wanted o (yl ops σ) = false) (h : QL P n ds ops C Q rest (updO σ o.dst undef)) : QL P n ds ops C Q (o :: rest) σ := by
  intro hin
  simp only [List.all_cons, Bool.and_eq_true] at hin
  have hin1 := hin.1
  refine wpQuiet_step fun K hK => ?_
  rw [act_yielded hin1, hg, if_neg Bool.false_ne_true]
  refine hK _ ?_
  rw [act_put (operIn_dst hin1)]; exact h hin.2
theorem QL_guard {b : Bool} (hg : Region.wanted o (yl ops σ) = b) (hy : b = true → YQ P σ o C v) (h : QL P n ds ops C Q rest (updO σ o.dst (bif b then v else undef))) : QL P n ds ops C Q (o :: rest) σ := by
  cases b with
  | true => exact QL_want hg (hy rfl) h
  | false => exact QL_skip hg h
end

/-- a loop whose measure goes with a ghost -/
theorem wp_loop' {P : Program} {Q : Exit → Act → World → Prop} {a : Act} {w : World} {c : Code} {m0 : Nat} (I : Act → World → Nat → Prop) (h₀ : I a w m0)
    (round : ∀ a w m, I a w m → c.wp P (Exit.then (fun a' w' => ∃ m', I a' w' m' ∧ m' < m) Q) a w) : (Code.loop c).wp P Q a w := by
  intro b k cs
  have key : ∀ m a w, I a w m →
      ∃ e a' w', Q e a' w' ∧ Arrives P (lone (b.at a (.code c :: .inLoop c :: k)) cs w) b k cs e a' w' := by
    intro m
    induction m using Nat.strongRecOn with
    | _ m ih =>
      intro a w hI
      obtain ⟨e, a₁, w₁, hq, harr⟩ := round a w m hI b (.inLoop c :: k) cs
      cases e with
      | normal =>
        obtain ⟨m', hI₁, hlt⟩ := hq
        obtain ⟨e₂, a₂, w₂, hq₂, harr₂⟩ := ih m' hlt a₁ w₁ hI₁
        exact ⟨e₂, a₂, w₂, hq₂, .of_steps (Steps.trans harr (.one step_inLoop)) harr₂⟩
      | exit id => exact ⟨_, a₁, w₁, hq, .pass (x := .inLoop c) rfl (fun _ _ => .inl (by simp)) harr⟩
      | goto l => exact ⟨_, a₁, w₁, hq, .pass (x := .inLoop c) rfl (fun _ _ => .inl (by simp)) harr⟩
      | ret => exact ⟨_, a₁, w₁, hq, .pass (x := .inLoop c) rfl (fun _ _ => .inl (by simp)) harr⟩
      | panic ch => exact ⟨_, a₁, w₁, hq, .pass (x := .inLoop c) rfl (fun _ _ => .inl (by simp)) harr⟩
      | outgrown => exact ⟨_, a₁, w₁, hq, .pass (x := .inLoop c) rfl (fun _ _ => .inl (by simp)) harr⟩
  obtain ⟨e, a', w', hq, harr⟩ := key m0 a w h₀
  exact ⟨e, a', w', hq, .of_steps (.one step_loop) harr⟩

theorem wpQuiet_mono {P : Program} {ops : Array Oper} {C : World → Prop} {Q Q' : Act → Prop} (h : ∀ a, Q a → Q' a) : ∀ {l : List Oper} {a : Act}, wpQuiet P ops C Q l a → wpQuiet P ops C Q' l a
  | [], _, hh => h _ hh
  | o :: l, a, hh => by
    simp only [wpQuiet] at hh ⊢
    split
    · rename_i hw; rw [if_pos hw] at hh; exact Oper.quiet_mono (fun _ => wpQuiet_mono h) hh
    · rename_i hw; rw [if_neg hw] at hh; exact wpQuiet_mono h hh

/-! ## Code -/
def codeIn (n : Nat) : Code → Bool
  | .region _ ops _ => ops.toList.all (operIn n ops)
  | .seq a b => codeIn n a && codeIn n b
  | .cond c a b => opIn n c && codeIn n a && codeIn n b
  | .block _ b => codeIn n b
  | .loop b => codeIn n b
  | .scope b => codeIn n b
  | .rangeFunc f ps a b => opIn n f && ps.all (fun t => Nat.blt t n) && codeIn n a && codeIn n b
  | _ => true

def WC (P : Program) (n : Nat) (ds : List Deferred) (c : Code) (Q : Exit → Env → World → Prop) (σ : Env) (w : World) : Prop :=
  codeIn n c = true → c.wp P (lft n ds Q) (act n ds σ) w

def thn (K : Env → World → Prop) (Q : Exit → Env → World → Prop) : Exit → Env → World → Prop
  | .normal, σ, w => K σ w
  | e, σ, w => Q e σ w
def ngt (Q : Exit → Env → World → Prop) : Exit → Env → World → Prop
  | .goto _, _, _ => False
  | e, σ, w => Q e σ w
def blk (id : Nat) (Q : Exit → Env → World → Prop) : Exit → Env → World → Prop
  | .exit id', σ, w => match Nat.beq id' id with | true => Q .normal σ w | false => Q (.exit id') σ w
  | e, σ, w => Q e σ w

/-- the program's regions may come in any order that Go leaves open -/
class Mix (P : Program) : Prop where
  ok : P.follows .mixedOrders = true

section
variable {P : Program} {n : Nat} {ds : List Deferred} {Q : Exit → Env → World → Prop} {K : Env → World → Prop} {σ : Env} {w : World} {a b c : Code}

theorem thn_normal (h : K σ w) : thn K Q .normal σ w := h
theorem thn_ret (h : Q .ret σ w) : thn K Q .ret σ w := h
theorem thn_exit {i : Nat} (h : Q (.exit i) σ w) : thn K Q (.exit i) σ w := h
theorem thn_panic {ch : List PanicEntry} (h : Q (.panic ch) σ w) : thn K Q (.panic ch) σ w := h
theorem blk_normal {i : Nat} (h : Q .normal σ w) : blk i Q .normal σ w := h
theorem blk_ret {i : Nat} (h : Q .ret σ w) : blk i Q .ret σ w := h
theorem blk_panic {i : Nat} {ch : List PanicEntry} (h : Q (.panic ch) σ w) : blk i Q (.panic ch) σ w := h
theorem blk_here {i : Nat} (h : Q .normal σ w) : blk i Q (.exit i) σ w := by simpa [blk, Nat.beq_refl] using h
theorem blk_on {i j : Nat} (hij : Nat.beq j i = false) (h : Q (.exit j) σ w) : blk i Q (.exit j) σ w := by simpa [blk, hij] using h

theorem WC_region {id : Nat} {ops : List Oper} (h : WL P n ds ops.toArray Q ops σ w) : WC P n ds (.region id ops.toArray false) Q σ w := fun hin =>
  wp_region_lit (h (by simpa [codeIn] using hin))

theorem WC_draw [hm : Mix P] {id : Nat} {ops : List Oper} (hB : Region.lexB .any ops.toArray = true)
    (h : QL P n ds ops.toArray (Frm w) (fun σ' => ∀ w', Frm w w' → Q .normal σ' w') ops σ) : WC P n ds (.region id ops.toArray true) Q σ w := fun hin => by
  refine wp_region_quiet hm.ok hB (Frm.drawn (Frm.refl w)) ?_
  have h1 := h (by simpa [codeIn] using hin)
  refine wpQuiet_mono ?_ (by simpa using h1)
  rintro a ⟨σ', rfl, hq⟩ w' hw'
  exact ⟨σ', rfl, hq w' hw'⟩

theorem WC_seq (h : WC P n ds a (thn (WC P n ds b Q) Q) σ w) : WC P n ds (.seq a b) Q σ w := fun hin => by
  simp only [codeIn, Bool.and_eq_true] at hin
  refine wp_seq (wp_mono (h hin.1) ?_)
  rintro e a' w' ⟨σ', rfl, hq⟩
  cases e <;> first | exact hq hin.2 | exact ⟨σ', rfl, hq⟩
theorem WC_skip (h : Q .normal σ w) : WC P n ds .skip Q σ w := fun _ => wp_skip ⟨σ, rfl, h⟩
theorem WC_label {l : Nat} (h : Q .normal σ w) : WC P n ds (.label l) Q σ w := fun _ => wp_label ⟨σ, rfl, h⟩
theorem WC_exit {i : Nat} (h : Q (.exit i) σ w) : WC P n ds (.exit i) Q σ w := fun _ => wp_exit ⟨σ, rfl, h⟩
theorem WC_ret (h : Q .ret σ w) : WC P n ds .ret Q σ w := fun _ => wp_ret ⟨σ, rfl, h⟩
theorem WC_block {i : Nat} (h : WC P n ds b (blk i Q) σ w) : WC P n ds (.block i b) Q σ w := fun hin => by
  refine wp_block (wp_mono (h hin) ?_)
  rintro e a' w' ⟨σ', rfl, hq⟩
  cases e <;> try exact ⟨σ', rfl, hq⟩
  rename_i id'
  simp only [Exit.inBlock]
  by_cases e : id' = i
  · subst e; simp only [if_true]; exact ⟨σ', rfl, by simpa [blk, Nat.beq_refl] using hq⟩
  · rw [if_neg e]
    have : Nat.beq id' i = false := by
      cases hb : Nat.beq id' i
      · rfl
      · exact absurd (Nat.eq_of_beq_eq_true hb) e
    exact ⟨σ', rfl, by simpa [blk, this] using hq⟩
theorem ngt_normal (h : Q .normal σ w) : ngt Q .normal σ w := h
theorem ngt_ret (h : Q .ret σ w) : ngt Q .ret σ w := h
theorem ngt_exit {i : Nat} (h : Q (.exit i) σ w) : ngt Q (.exit i) σ w := h
theorem ngt_panic {ch : List PanicEntry} (h : Q (.panic ch) σ w) : ngt Q (.panic ch) σ w := h
theorem WC_scope (h : WC P n ds b (ngt Q) σ w) : WC P n ds (.scope b) Q σ w := fun hin => by
  refine wp_scope_straight (wp_mono (h hin) ?_)
  rintro e a' w' ⟨σ', rfl, hq⟩
  cases e <;> first | exact ⟨σ', rfl, hq⟩ | exact hq.elim
theorem WC_cond {x : Operand} {t : Bool} (hc : evl σ x = .bool t) (ht : t = true → WC P n ds a Q σ w) (hf : t = false → WC P n ds b Q σ w) : WC P n ds (.cond x a b) Q σ w := fun hin => by
  simp only [codeIn, Bool.and_eq_true] at hin
  refine wp_cond_split (t := t) ?_ (fun h => ht h hin.1.2) (fun h => hf h hin.2)
  rw [act_eval hin.1.1, hc]
theorem WC_dec {x : Operand} {p : Prop} [Decidable p] (hc : evl σ x = .bool (decide p)) (ht : p → WC P n ds a Q σ w) (hf : ¬ p → WC P n ds b Q σ w) : WC P n ds (.cond x a b) Q σ w :=
  WC_cond hc (fun h => ht (of_decide_eq_true h)) (fun h => hf (of_decide_eq_false h))
theorem WC_yes {x : Operand} (hc : evl σ x = .bool true) (ht : WC P n ds a Q σ w) : WC P n ds (.cond x a b) Q σ w := WC_cond hc (fun _ => ht) (fun h => by cases h)
theorem WC_no {x : Operand} (hc : evl σ x = .bool false) (hf : WC P n ds b Q σ w) : WC P n ds (.cond x a b) Q σ w := WC_cond hc (fun h => by cases h) (fun _ => hf)

theorem WC_mono {Q' : Exit → Env → World → Prop} (h : WC P n ds c Q σ w) (hq : ∀ e σ w, Q e σ w → Q' e σ w) : WC P n ds c Q' σ w := fun hin =>
  wp_mono (h hin) fun _ _ _ ⟨σ', ha, h⟩ => ⟨σ', ha, hq _ _ _ h⟩

/-- slots and what lies in them -/
def Has (σ : Env) : List (Nat × Value) → Prop
  | [] => True
  | (d, v) :: l => σ d = v ∧ Has σ l
def updL (σ : Env) : List (Nat × Value) → Env
  | [] => σ
  | (d, v) :: l => upd (updL σ l) d v
theorem updL_has {σ : Env} : ∀ {l : List (Nat × Value)}, Has σ l → updL σ l = σ
  | [], _ => rfl
  | (d, v) :: l, ⟨h, hl⟩ => by simp only [updL]; rw [updL_has hl]; exact upd_self h

/-- a loop: the ghost state X, the slots that are known, what else holds, a measure -/
theorem WC_loop {X : Type} (sl : X → List (Nat × Value)) (I : X → World → Prop) (μ : X → Nat) (x0 : X) (h0 : Has σ (sl x0)) (hI : I x0 w)
    (round : ∀ (x : X) (w : World) (ρ : Env), I x w → WC P n ds c (thn (fun σ' w' => ∃ x', Has σ' (sl x') ∧ I x' w' ∧ μ x' < μ x) Q) (updL ρ (sl x)) w) : WC P n ds (.loop c) Q σ w := fun hin => by
  refine wp_loop' (fun a w' m => ∃ x σ', a = act n ds σ' ∧ Has σ' (sl x) ∧ I x w' ∧ μ x = m) ⟨x0, σ, rfl, h0, hI, rfl⟩ ?_
  rintro a w' m ⟨x, σ', rfl, hh, hi, rfl⟩
  have h1 := round x w' σ' hi hin
  rw [updL_has hh] at h1
  refine wp_mono h1 ?_
  rintro e a' w'' ⟨σ'', rfl, hq⟩
  cases e <;> try exact ⟨σ'', rfl, hq⟩
  obtain ⟨x', h2, h3, h4⟩ := hq
  exact ⟨_, ⟨x', σ'', rfl, h2, h3, rfl⟩, h4⟩
end

/-! ## A function -/
def ent : List Value → Nat → Env
  | [], _ => fun _ => undef
  | v :: vs, k => upd (ent vs (k + 1)) k v
theorem ent_get : ∀ (l : List Value) (k t : Nat), ent l k (k + t) = l.getD t undef
  | [], _, _ => by simp [ent]
  | v :: vs, k, 0 => by simp [ent, upd_same]
  | v :: vs, k, t + 1 => by
    have h := ent_get vs (k + 1) t
    rw [show k + 1 + t = k + (t + 1) from by omega] at h
    simp only [ent]
    rw [upd_ne _ _ (by omega), h]
    simp

def fpost (P : Program) (n : Nat) (fn : Func) (R : Value → World → Prop) : Exit → Env → World → Prop
  | .normal, σ, w | .ret, σ, w => ∃ v, (results fn (act n [] σ).tmps).run P w = .ok v w ∧ R v w
  | _, _, _ => False

section
variable {P : Program} {n : Nat} {fn : Func} {R : Value → World → Prop} {σ : Env} {w : World}

theorem call_intro {f : FuncId} {c : Code} {l : List Value} (hf : P.funcs[f]? = some fn) (hb : fn.body = some c) (hn : fn.ntmps = n) (hin : codeIn n c = true) (hl : Nat.ble l.length n = true)
    (h : WC P n [] c (fpost P n fn R) (ent l 0) w) : CallsR P f l.toArray w R := by
  refine calls_of_wp hf hb ?_
  have hl' : l.length ≤ n := by simpa using hl
  have e : ({ tmps := l.toArray ++ Array.replicate (fn.ntmps - l.toArray.size) undef, defers := [] } : Act) = act n [] (ent l 0) := by
    simp only [act, hn]
    congr 1
    apply Array.ext
    · simp; omega
    · intro i h1 h2
      have hi : i < n := by simpa using h2
      have := ent_get l 0 i
      rw [Nat.zero_add] at this
      simp only [Array.getElem_ofFn, this]
      rw [Array.getElem_append]
      split
      · rename_i h3; simp only [List.size_toArray] at h3; simp [h3]
      · rename_i h3; simp only [List.size_toArray] at h3; simp [Nat.not_lt.1 h3]
  rw [e]
  refine wp_mono (h hin) ?_
  rintro ex a' w' ⟨σ', rfl, hq⟩
  cases ex with
  | normal => obtain ⟨v, h1, h2⟩ := hq; exact ⟨rfl, v, h1, v, rfl, h2⟩
  | ret => obtain ⟨v, h1, h2⟩ := hq; exact ⟨rfl, v, h1, v, rfl, h2⟩
  | _ => exact hq.elim

theorem act_getD {t : Nat} (h : Nat.blt t n = true) : (act n [] σ).tmps.getD t undef = σ t := by
  have ht : t < n := by simpa using h
  simp [act, ht]
theorem fp0 {ex : Exit} (hex : ex = .ret ∨ ex = .normal) (hr : fn.results = #[]) (h : R (.tuple #[]) w) : fpost P n fn R ex σ w := by
  rcases hex with rfl | rfl <;> exact ⟨_, results_none hr _ _ _, h⟩
theorem fp1 {t : Nat} {ex : Exit} (hex : ex = .ret ∨ ex = .normal) (hr : fn.results = #[.tmp t]) (ht : Nat.blt t n = true) (h : R (σ t) w) : fpost P n fn R ex σ w := by
  rcases hex with rfl | rfl <;> exact ⟨_, results_tmp hr _ _ _, by rw [act_getD ht]; exact h⟩
theorem fp2 {t u : Nat} {ex : Exit} (hex : ex = .ret ∨ ex = .normal) (hr : fn.results = #[.tmp t, .tmp u]) (ht : Nat.blt t n = true) (hu : Nat.blt u n = true) (h : R (.tuple #[σ t, σ u]) w) : fpost P n fn R ex σ w := by
  rcases hex with rfl | rfl <;> exact ⟨_, results_tmp2 hr _ _ _, by rw [act_getD ht, act_getD hu]; exact h⟩
theorem fp3 {t u s : Nat} {ex : Exit} (hex : ex = .ret ∨ ex = .normal) (hr : fn.results = #[.tmp t, .tmp u, .tmp s]) (ht : Nat.blt t n = true) (hu : Nat.blt u n = true) (hs : Nat.blt s n = true) (h : R (.tuple #[σ t, σ u, σ s]) w) : fpost P n fn R ex σ w := by
  have e : (results fn (act n [] σ).tmps).run P w = .ok (.tuple #[(act n [] σ).tmps.getD t undef, (act n [] σ).tmps.getD u undef, (act n [] σ).tmps.getD s undef]) w := by
    simp [results, hr]
  rw [act_getD ht, act_getD hu, act_getD hs] at e
  rcases hex with rfl | rfl <;> exact ⟨_, e, h⟩
end
end Go.Sv

/-! ## Frames of values that may not be there: a value and whether it is -/
namespace Go.Sv
structure GV where
  v : Value
  g : Bool
abbrev GE := Nat → GV
def rv (x : GV) : Value := match x with | ⟨v, true⟩ => v | ⟨_, false⟩ => undef
def real (σ : GE) : Env := fun t => rv (σ t)
def updG (σ : GE) (d : Nat) (x : GV) : GE := fun t => match Nat.beq t d with | true => x | false => σ t
def lif (ρ : Env) : GE := fun t => ⟨ρ t, true⟩
theorem real_lif (ρ : Env) : real (lif ρ) = ρ := rfl
theorem real_upd (σ : GE) (d : Nat) (x : GV) : upd (real σ) d (rv x) = real (updG σ d x) := by
  funext t; simp only [upd, real, updG]; cases Nat.beq t d <;> rfl
theorem realB (σ : GE) (d t : Nat) (x : GV) : real (updG σ d x) t = bif t == d then rv x else real σ t := by rw [← real_upd, updB]
theorem rv_true (v : Value) : rv ⟨v, true⟩ = v := rfl
def updGL (σ : GE) : List (Nat × Value) → GE
  | [] => σ
  | (d, v) :: l => updG (updGL σ l) d ⟨v, true⟩
theorem real_updL (ρ : Env) : ∀ l, updL ρ l = real (updGL (lif ρ) l)
  | [] => rfl
  | (d, v) :: l => by simp only [updL, updGL]; rw [real_updL ρ l]; exact real_upd _ d ⟨v, true⟩
def entG : List Value → Nat → GE
  | [], _ => fun _ => ⟨undef, true⟩
  | v :: vs, k => updG (entG vs (k + 1)) k ⟨v, true⟩
theorem real_ent : ∀ (l : List Value) (k : Nat), ent l k = real (entG l k)
  | [], _ => rfl
  | v :: vs, k => by simp only [ent, entG]; rw [real_ent vs]; exact real_upd _ k ⟨v, true⟩
def gvl (σ : GE) : Operand → GV
  | .tmp t => σ t
  | .const v => ⟨v, true⟩
  | .global g => ⟨.pointer (some ⟨g, 0, none⟩), true⟩
  | .func f => ⟨.func (.func f) #[] #[], true⟩
theorem evr {σ : GE} {x : Operand} {v : Value} {g : Bool} (h : gvl σ x = ⟨v, g⟩) (hg : g = true) : evl (real σ) x = v := by
  subst hg
  cases x <;> simp only [gvl] at h
  · simp only [evl, real, h, rv]
  all_goals (injection h)
theorem evl_real (σ : GE) (x : Operand) (h : (gvl σ x).g = true) : evl (real σ) x = (gvl σ x).v := evr (v := (gvl σ x).v) rfl h

/-- a Bool out of two: what '&&' and '||' leave -/
def pkb (c a b : Bool) : Bool := bif c then a else b
@[simp] theorem pkb_or (c e : Bool) : pkb c true e = (c || e) := by cases c <;> rfl
@[simp] theorem pkb_and (c e : Bool) : pkb c e false = (c && e) := by cases c <;> rfl

def kEq : IntKind → IntKind → Bool
  | .i8, .i8 | .i16, .i16 | .i32, .i32 | .i64, .i64 | .u8, .u8 | .u16, .u16 | .u32, .u32 | .u64, .u64 => true
  | _, _ => false
theorem kEq_eq {k k' : IntKind} (h : kEq k k' = true) : k = k' := by cases k <;> cases k' <;> simp_all [kEq]

/-- comparisons -/
def cmpV : BinOp → Value → Value → Option Value
  | .lss, .int k a, .int k' b => match kEq k k' with | true => some (.bool (decide (a < b))) | false => none
  | .leq, .int k a, .int k' b => match kEq k k' with | true => some (.bool (decide (a ≤ b))) | false => none
  | .gtr, .int k a, .int k' b => match kEq k k' with | true => some (.bool (decide (b < a))) | false => none
  | .geq, .int k a, .int k' b => match kEq k k' with | true => some (.bool (decide (b ≤ a))) | false => none
  | .eql, .int k a, .int k' b => match kEq k k' with | true => some (.bool (decide (a = b))) | false => none
  | .neq, .int k a, .int k' b => match kEq k k' with | true => some (.bool (decide (a ≠ b))) | false => none
  | .eql, .string ⟨⟨a⟩⟩, .string ⟨⟨b⟩⟩ => some (.bool (decide (a = b)))
  | .neq, .string ⟨⟨a⟩⟩, .string ⟨⟨b⟩⟩ => some (.bool (decide (a ≠ b)))
  | _, _, _ => none

/-- what an operation that looks at its operands alone yields, and what of them must be there -/
def ev1 (σ : GE) : Op → Option GV
  | .move x | .assign x => match gvl σ x with | ⟨v, g⟩ => some ⟨v, g⟩
  | .pick c a b => match gvl σ c, gvl σ a, gvl σ b with
    | ⟨.bool c, gc⟩, ⟨.bool a, ga⟩, ⟨.bool b, gb⟩ => some ⟨.bool (pkb c a b), gc && pkb c ga gb⟩
    | _, _, _ => none
  | .binOp op _ x y _ => match gvl σ x, gvl σ y with
    | ⟨v, gx⟩, ⟨u, gy⟩ => match cmpV op v u with
      | some r => some ⟨r, gx && gy⟩
      | none => none
  | .unOp .not _ x => match gvl σ x with
    | ⟨.bool c, g⟩ => some ⟨.bool (!c), g⟩
    | _ => none
  | .extract x i => match gvl σ x with
    | ⟨.tuple ⟨vs⟩, g⟩ => match vs[i]? with | some v => some ⟨v, g⟩ | none => none
    | _ => none
  | _ => none
end Go.Sv

namespace Go.Sv
theorem Y.val {P : Program} {σ : Env} {o : Oper} {w w' : World} {v : Value} (h : (execOp (evl σ) o).run P w = .ok (.value v) w') : Y P σ o w v w' := .inl h
theorem Y.skip {P : Program} {σ : Env} {o : Oper} {w w' : World} (h : (execOp (evl σ) o).run P w = .ok .skip w') : Y P σ o w undef w' := .inr ⟨h, rfl⟩
attribute [irreducible] WL WC QL thn blk ngt Y YQ
end Go.Sv
