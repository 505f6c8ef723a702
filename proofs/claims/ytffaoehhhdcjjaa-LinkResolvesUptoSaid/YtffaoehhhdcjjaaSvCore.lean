/-
  The wp rules of our own, over the kit's Code.wp and wpList: a frame is a function from slots to values.
-/
import Derived.WalkKit
import Derived.Test.YtffaoehhhdcjjaaSvTail
import Derived.Deep.Quiet
import Derived.KernelRfl
import Derived.RangeFuncLeaves
import Derived.RangeFuncRecord
set_option linter.unusedSimpArgs false
set_option linter.unusedVariables false
set_option linter.unnecessarySimpa false
namespace Go.Sv
open Go Go.RowKit

/-! ## Frames -/
abbrev Env := Nat → Value
/-- what is deferred so far; and whether a round of a loop over a function is under way -/
structure Ctx where
  ds : List Deferred
  ro : Option Nat
def fen : Option Nat → Fence
  | none => Fence.wide
  | some l => Fence.wide.inRound l
theorem fen_fn (ro : Option Nat) (f : FuncId) : (fen ro).fn f := by cases ro <;> trivial
theorem fen_depth (ro : Option Nat) : (fen ro).depth = none := by cases ro <;> rfl
theorem fen_round (ro : Option Nat) : (fen ro).round = ro := by cases ro <;> rfl
theorem callsIn_fen {ro : Option Nat} {n : Nat} {P : Program} {f : FuncId} {args : Array Value} {w : World} {R : Ending → World → Prop} (h : Calls P f args w R) : CallsIn (fen ro) n P f args w R := by
  cases ro
  · exact callsIn_wide.2 h
  · exact (callsIn_wide (n := n)).2 h
def upd (σ : Env) (d : Nat) (v : Value) : Env := fun t => match Nat.beq t d with | true => v | false => σ t
def updO (σ : Env) (d : Option Nat) (v : Value) : Env := match d with | some d => upd σ d v | none => σ
def act (n : Nat) (ds : List Deferred) (σ : Env) : Act := ⟨Array.ofFn (fun i : Fin n => σ i), ds⟩
def evl (σ : Env) : Operand → Value
  | .tmp t => σ t
  | .const v => v
  | .global g => .pointer (some ⟨g, 0, none⟩)
  | .func f => .func (.func f) #[] #[]

theorem upd_same (σ : Env) (d : Nat) (v : Value) : upd σ d v d = v := by simp [upd, Nat.beq_refl]
theorem upd_ne (σ : Env) {d t : Nat} (v : Value) (h : t ≠ d) : upd σ d v t = σ t := by
  have : Nat.beq t d = false := by
    cases hb : Nat.beq t d
    · rfl
    · exact absurd (Nat.eq_of_beq_eq_true hb) h
  simp [upd, this]
theorem updB (σ : Env) (d : Nat) (v : Value) (t : Nat) : upd σ d v t = bif t == d then v else σ t := by
  by_cases e : t = d
  · subst e; rw [upd_same, beq_self_eq_true, cond_true]
  · rw [upd_ne _ _ e, beq_eq_false_iff_ne.2 e, cond_false]
theorem upd_self {σ : Env} {d : Nat} {v : Value} (h : σ d = v) : upd σ d v = σ := by
  funext t
  by_cases e : t = d
  · subst e; rw [upd_same, h]
  · rw [upd_ne _ _ e]

def opIn (n : Nat) : Operand → Bool
  | .tmp t => Nat.blt t n
  | _ => true
def dstIn (n : Nat) : Option Nat → Bool
  | some d => Nat.blt d n
  | none => true
def operIn (n : Nat) (inr : Bool) (ops : Array Oper) (o : Oper) : Bool :=
  dstIn n o.dst && o.op.operands.all (opIn n) && (match o.op with | .select .. => false | .defer _ => !inr | _ => true) &&
  (match o.guard with | some (j, _) => (match (ops[j]?).bind (·.dst) with | some d => Nat.blt d n | none => true) | none => true)

theorem act_eval {n : Nat} {ds : List Deferred} {σ : Env} {x : Operand} (h : opIn n x = true) : (act n ds σ).eval x = evl σ x := by
  cases x with
  | tmp t =>
    have ht : t < n := by simpa [opIn] using h
    simp [Act.eval, act, evl, ht]
  | _ => rfl

theorem act_put {n : Nat} {ds : List Deferred} {σ : Env} {d : Option Nat} {v : Value} (_h : dstIn n d = true) : (act n ds σ).put d v = act n ds (updO σ d v) := by
  cases d with
  | none => rfl
  | some d =>
    simp only [Act.put, act, updO]
    congr 1
    apply Array.ext
    · simp
    · intro i h1 h2
      simp only [Array.size_setIfInBounds, Array.size_ofFn] at h1
      rw [Array.getElem_setIfInBounds (by simpa using h1)]
      by_cases e : d = i
      · subst e; simp [upd_same]
      · rw [if_neg e]; simp [upd_ne σ v (Ne.symm e)]

theorem act_exec {n : Nat} {inr : Bool} {ops : Array Oper} {ds : List Deferred} {σ : Env} {o : Oper} (h : operIn n inr ops o = true) : execOp (act n ds σ).eval o = execOp (evl σ) o := by
  simp only [operIn, Bool.and_eq_true] at h
  refine execOp_congr o (fun cs b hs => ?_) (fun x hx => act_eval ?_)
  · rw [hs] at h; simp at h
  · have := h.1.1.2
    rw [Array.all_eq_true'] at this
    exact this x hx

/-- what a guard sees -/
def yl (ops : Array Oper) (σ : Env) (j : Nat) : Option Bool :=
  match (ops[j]?).bind (·.dst) with
  | some d => (match σ d with | .bool b => some b | _ => none)
  | none => none

theorem semAt_in {n : Nat} {ro : Option Nat} {ops : Array Oper} {o : Oper} (h : operIn n ro.isSome ops o = true) (ρ : Operand → Value) : Oper.semAt ro ρ o = execOp ρ o := by
  cases ro with
  | none => rfl
  | some l =>
    refine Oper.semAt_eq _ _ _ fun c hc => ?_
    simp only [operIn, Bool.and_eq_true] at h
    have := h.1.2
    rw [hc] at this
    simp at this
theorem act_yielded {n : Nat} {inr : Bool} {ops : Array Oper} {ds : List Deferred} {σ : Env} {o : Oper} (h : operIn n inr ops o = true) : Region.wanted o (yielded ops (act n ds σ).tmps) = Region.wanted o (yl ops σ) := by
  simp only [operIn, Bool.and_eq_true] at h
  have h2 := h.2
  unfold Region.wanted
  cases hg : o.guard with
  | none => rfl
  | some p =>
    obtain ⟨j, want⟩ := p
    simp only [hg] at h2
    simp only [yielded, yl]
    cases hd : (ops[j]?).bind (·.dst) with
    | none => rfl
    | some d =>
      simp only [hd] at h2
      have hdn : d < n := by simpa using h2
      simp only [Option.bind_some, act]
      rw [Array.getElem?_eq_getElem (by simpa using hdn)]
      simp only [Array.getElem_ofFn]
      cases σ d <;> rfl

/-! ## One operation: what it yields -/
def Y (P : Program) (σ : Env) (o : Oper) (w : World) (v : Value) (w' : World) : Prop :=
  (execOp (evl σ) o).run P w = .ok (.value v) w' ∨ ((execOp (evl σ) o).run P w = .ok .skip w' ∧ v = undef)

/-! ## Lists of operations -/
def lft (n : Nat) (ro : Option Nat) (Q : Exit → Ctx → Env → World → Prop) : Exit → Act → World → Prop := fun e a w => ∃ ds σ, a = act n ds σ ∧ Q e ⟨ds, ro⟩ σ w
def WL (P : Program) (n : Nat) (ds : Ctx) (ops : Array Oper) (Q : Exit → Ctx → Env → World → Prop) (l : List Oper) (σ : Env) (w : World) : Prop :=
  l.all (operIn n ds.ro.isSome ops) = true → wpListIn (fen ds.ro) 0 P ops (lft n ds.ro Q) l (act n ds.ds σ) w

theorem operIn_dst {n : Nat} {inr : Bool} {ops : Array Oper} {o : Oper} (h : operIn n inr ops o = true) : dstIn n o.dst = true := by
  simp only [operIn, Bool.and_eq_true] at h; exact h.1.1.1

section
variable {P : Program} {n : Nat} {ds : Ctx} {ops : Array Oper} {Q : Exit → Ctx → Env → World → Prop} {rest : List Oper} {σ : Env} {w w' : World} {o : Oper} {v : Value}

theorem WL_nil (h : Q .normal ds σ w) : WL P n ds ops Q [] σ w := fun _ => ⟨ds.ds, σ, rfl, h⟩

/-- an operation that is carried out: what the model says of it, to the rest -/
theorem WL_upon (hg : Region.wanted o (yl ops σ) = true)
    (h : operIn n ds.ro.isSome ops o = true → ∀ K : Act → World → Prop, (∀ σ w, WL P n ds ops Q rest σ w → K (act n ds.ds σ) w) → (∀ d σ w, WL P n ⟨d :: ds.ds, ds.ro⟩ ops Q rest σ w → K (act n (d :: ds.ds) σ) w) →
      o.uponIn (fen ds.ro) 0 P (act n ds.ds σ) K (lft n ds.ro Q) ((execOp (evl σ) o).run P w)) : WL P n ds ops Q (o :: rest) σ w := by
  intro hin
  simp only [List.all_cons, Bool.and_eq_true] at hin
  have hin1 := hin.1
  refine wpListIn_step fun K hK => ?_
  rw [act_yielded hin1, hg, if_pos rfl]
  refine ⟨fun f _ => fen_fn _ _, ?_⟩
  rw [fen_round, semAt_in hin1, act_exec hin1]
  exact h hin1 K (fun σ w hw => hK _ _ (hw hin.2)) (fun d σ w hw => hK _ _ (hw hin.2))

theorem WL_want (hg : Region.wanted o (yl ops σ) = true) (hy : Y P σ o w v w') (h : WL P n ds ops Q rest (updO σ o.dst v) w') : WL P n ds ops Q (o :: rest) σ w := by
  refine WL_upon hg fun hin K hK _ => ?_
  have hd := operIn_dst hin
  rcases hy with hy | ⟨hy, hv⟩
  · rw [hy, Oper.uponIn_value, act_put hd]; exact hK _ _ h
  · rw [hy, Oper.uponIn_skip, act_put hd, ← hv]; exact hK _ _ h

theorem WL_step (hg : o.guard = none) (hy : Y P σ o w v w') (h : WL P n ds ops Q rest (updO σ o.dst v) w') : WL P n ds ops Q (o :: rest) σ w :=
  WL_want (by simp [Region.wanted, hg]) hy h

/-- an operation whose guard says no -/
theorem WL_skip (hg : Region.wanted o (yl ops σ) = false) (h : WL P n ds ops Q rest (updO σ o.dst undef) w) : WL P n ds ops Q (o :: rest) σ w := by
  intro hin
  simp only [List.all_cons, Bool.and_eq_true] at hin
  have hin1 := hin.1
  have hd := operIn_dst hin1
  refine wpListIn_step fun K hK => ?_
  rw [act_yielded hin1, hg]
  simp only [Bool.false_eq_true, if_false]
  refine ⟨fun f _ => fen_fn _ _, hK _ _ ?_⟩
  rw [act_put hd]; exact h hin.2

/-- a guarded operation that leaves the world alone, both ways in one -/
theorem WL_guard {b : Bool} (hg : Region.wanted o (yl ops σ) = b) (hy : b = true → Y P σ o w v w) (h : WL P n ds ops Q rest (updO σ o.dst (bif b then v else undef)) w) : WL P n ds ops Q (o :: rest) σ w := by
  cases b with
  | true => exact WL_want hg (hy rfl) h
  | false => exact WL_skip hg h

/-- a statement 'defer' -/
theorem WL_defer {d : Deferred} (hg : o.guard = none) (hy : (execOp (evl σ) o).run P w = .ok (.defer d) w') (h : WL P n ⟨d :: ds.ds, ds.ro⟩ ops Q rest (updO σ o.dst undef) w') : WL P n ds ops Q (o :: rest) σ w := by
  refine WL_upon (by simp [Region.wanted, hg]) fun hin K _ hK => ?_
  have hd := operIn_dst hin
  rw [hy, Oper.uponIn_defer]
  have e : ({ act n ds.ds σ with defers := d :: (act n ds.ds σ).defers } : Act) = act n (d :: ds.ds) σ := rfl
  rw [e, act_put hd]
  exact hK _ _ _ h

/-! ## A call of a function by its contract -/
def CallsR (P : Program) (f : FuncId) (args : Array Value) (w : World) (R : Value → World → Prop) : Prop := Calls P f args w fun e w' => ∃ v, e = .returned v ∧ R v w'
theorem CallsR.mono {f : FuncId} {args : Array Value} {R R' : Value → World → Prop} (h : CallsR P f args w R) (hr : ∀ v w', R v w' → R' v w') : CallsR P f args w R' :=
  Calls.mono h fun _ _ ⟨v, he, h⟩ => ⟨v, he, hr _ _ h⟩

/-- a function that is entered as Go code -/
class Fnc (P : Program) (f : FuncId) : Prop where
  ok : ∃ fn, P.funcs[f]? = some fn ∧ (fn.name == "runtime.NumGoroutine") = false ∧ fn.body.isNone = false

theorem run_callFunc {f : FuncId} [hf : Fnc P f] (args : Array Value) (w : World) : (callFunc f args).run P w = .ok (.enter f args) w := by
  obtain ⟨fn, h1, h2, h3⟩ := hf.ok
  simp only [callFunc, Sem.run_bind, run_program, Result.andThen_ok, h1, h2, h3]
  rfl

theorem run_call_func {f : FuncId} [hf : Fnc P f] (σ : Env) (d : Option Tmp) (args : Array Operand) (ats : Array TypeId) (ty : TypeId) (pos : String) (af : Array Edge) (g : Option (Nat × Bool)) (w : World) :
    (execOp (evl σ) ⟨d, .call ⟨.value (.func f), args, ats⟩, ty, pos, af, g⟩).run P w = .ok (.enter f (args.map (evl σ))) w := by
  simp only [execOp, resolve, evl, Deferred.ofValue]
  simp only [Sem.run_bind, Sem.run_pure, Result.andThen_ok, invoke]
  simpa using run_callFunc (P := P) (f := f) (args.map (evl σ)) w

/-- a call that comes to a function's entry, by the function's contract: it returns, or panics -/
theorem WL_enter {f : FuncId} {args : Array Value} {R : Value → World → Prop} {S : List PanicEntry → World → Prop} (hg : Region.wanted o (yl ops σ) = true) (hy : (execOp (evl σ) o).run P w = .ok (.enter f args) w')
    (hc : Calls P f args w' fun e w'' => (∃ v, e = .returned v ∧ R v w'') ∨ ∃ ch, e = .panicked ch ∧ S ch w'')
    (h : ∀ v w', R v w' → WL P n ds ops Q rest (updO σ o.dst v) w') (hp : ∀ ch w', S ch w' → Q (.panic ch) ds σ w') : WL P n ds ops Q (o :: rest) σ w := by
  refine WL_upon hg fun hin K hK _ => ?_
  have hd := operIn_dst hin
  rw [hy, Oper.uponIn_enter]
  refine ⟨fun hx => (by rw [fen_depth] at hx; cases hx), callsIn_fen (Calls.mono hc ?_)⟩
  rintro e w'' (⟨v, rfl, hR⟩ | ⟨ch, rfl, hS⟩)
  · show K _ _
    rw [act_put hd]; exact hK _ _ (h v w'' hR)
  · exact ⟨ds.ds, σ, rfl, hp ch w'' hS⟩

theorem WL_call_want {f : FuncId} [hf : Fnc P f] {d : Option Tmp} {args : Array Operand} {ats : Array TypeId} {ty : TypeId} {pos : String} {af : Array Edge} {g : Option (Nat × Bool)} {R : Value → World → Prop}
    (hg : Region.wanted ⟨d, .call ⟨.value (.func f), args, ats⟩, ty, pos, af, g⟩ (yl ops σ) = true)
    (hc : CallsR P f (args.map (evl σ)) w R) (h : ∀ v w', R v w' → WL P n ds ops Q rest (updO σ d v) w') :
    WL P n ds ops Q (⟨d, .call ⟨.value (.func f), args, ats⟩, ty, pos, af, g⟩ :: rest) σ w :=
  WL_enter (S := fun _ _ => False) hg (run_call_func σ d args ats ty pos af g w) (Calls.mono hc fun _ _ h => .inl h) h fun _ _ h => h.elim
theorem WL_call {f : FuncId} [hf : Fnc P f] {d : Option Tmp} {args : Array Operand} {ats : Array TypeId} {ty : TypeId} {pos : String} {af : Array Edge} {R : Value → World → Prop}
    (hc : CallsR P f (args.map (evl σ)) w R) (h : ∀ v w', R v w' → WL P n ds ops Q rest (updO σ d v) w') :
    WL P n ds ops Q (⟨d, .call ⟨.value (.func f), args, ats⟩, ty, pos, af, none⟩ :: rest) σ w := WL_call_want (by simp [Region.wanted]) hc h
end

/-! ## Worlds that have grown -/
/-- all blocks of w are in w' as they were -/
def Frm (w w' : World) : Prop := Below w.heap.size w w'
theorem Frm.refl (w : World) : Frm w w := Below.refl _ _
theorem Frm.trans {a b c : World} (h : Frm a b) (k : Frm b c) : Frm a c := Below.trans h (Below.mono k h.size)
theorem Frm.drew {a b : World} (h : Frm a b) : Frm a b.drew := Below.drew h
theorem Frm.drawn {a b : World} (h : Frm a b) : Frm a { b with drawn := b.drawn + 1 } := Below.drew h

/-! ## Regions that draw their order -/
/-- one value in every world of the class, in whatever world of the class -/
def YQ (P : Program) (σ : Env) (o : Oper) (C : World → Prop) (v : Value) : Prop := ∀ w, C w → quietR P Frm w v ((execOp (evl σ) o).run P w)
def QL (P : Program) (n : Nat) (ds : Ctx) (ops : Array Oper) (C : World → Prop) (Q : Env → Prop) (l : List Oper) (σ : Env) : Prop :=
  l.all (operIn n false ops) = true → wpR P ops Frm C (fun a => ∃ σ', a = act n ds.ds σ' ∧ Q σ') l (act n ds.ds σ)

section
variable {P : Program} {n : Nat} {ds : Ctx} {ops : Array Oper} {C : World → Prop} {Q : Env → Prop} {rest : List Oper} {σ : Env} {w w' : World} {o : Oper} {v : Value}
theorem YQ.ofY (h : ∀ w, C w → Y P σ o w v w) : YQ P σ o C v := by
  intro w hw
  rcases h w hw with h | ⟨h, hv⟩
  · rw [h]; exact ⟨rfl, rfl⟩
  · rw [h]; exact ⟨rfl, hv⟩
theorem YQ.ofCall {f : FuncId} [hf : Fnc P f] {d : Option Tmp} {args : Array Operand} {ats : Array TypeId} {ty : TypeId} {pos : String} {af : Array Edge} {g : Option (Nat × Bool)}
    (h : ∀ w, C w → CallsR P f (args.map (evl σ)) w fun u w' => u = v ∧ Frm w w') : YQ P σ ⟨d, .call ⟨.value (.func f), args, ats⟩, ty, pos, af, g⟩ C v := by
  intro w hw
  rw [run_call_func]
  refine ⟨rfl, Calls.mono (h w hw) ?_⟩
  rintro e w' ⟨u, rfl, rfl, hC⟩
  exact ⟨rfl, hC⟩

theorem QL_nil (h : Q σ) : QL P n ds ops C Q [] σ := fun _ => ⟨σ, rfl, h⟩
theorem QL_want (hg : Region.wanted o (yl ops σ) = true) (hy : YQ P σ o C v) (h : QL P n ds ops C Q rest (updO σ o.dst v)) : QL P n ds ops C Q (o :: rest) σ := by
  intro hin
  simp only [List.all_cons, Bool.and_eq_true] at hin
  have hin1 := hin.1
  simp only [wpR]
  rw [act_yielded hin1, hg, if_pos rfl]
  refine ⟨v, fun w hw => ?_, ?_⟩
  · rw [act_exec hin1]; exact hy w hw
  · rw [act_put (operIn_dst hin1)]; exact h hin.2
theorem QL_step (hg : o.guard = none) (hy : YQ P σ o C v) (h : QL P n ds ops C Q rest (updO σ o.dst v)) : QL P n ds ops C Q (o :: rest) σ :=
  QL_want (by simp [Region.wanted, hg]) hy h
theorem QL_skip (hg : Region.wanted o (yl ops σ) = false) (h : QL P n ds ops C Q rest (updO σ o.dst undef)) : QL P n ds ops C Q (o :: rest) σ := by
  intro hin
  simp only [List.all_cons, Bool.and_eq_true] at hin
  have hin1 := hin.1
  simp only [wpR]
  rw [act_yielded hin1, hg, if_neg Bool.false_ne_true]
  rw [act_put (operIn_dst hin1)]; exact h hin.2
theorem QL_guard {b : Bool} (hg : Region.wanted o (yl ops σ) = b) (hy : b = true → YQ P σ o C v) (h : QL P n ds ops C Q rest (updO σ o.dst (bif b then v else undef))) : QL P n ds ops C Q (o :: rest) σ := by
  cases b with
  | true => exact QL_want hg (hy rfl) h
  | false => exact QL_skip hg h
end

/-- a loop whose measure goes with a ghost -/
theorem wp_loop' {F : Fence} {n : Nat} {P : Program} {Q : Exit → Act → World → Prop} {a : Act} {w : World} {c : Code} {m0 : Nat} (I : Act → World → Nat → Prop) (h₀ : I a w m0)
    (round : ∀ a w m, I a w m → c.wpIn F n P (Exit.then (fun a' w' => ∃ m', I a' w' m' ∧ m' < m) Q) a w) : (Code.loop c).wpIn F n P Q a w := by
  intro b k cs hro hb hr
  have key : ∀ m a w, I a w m →
      ∃ e a' w', Q e a' w' ∧ ArrivesIn (Machine.fenced P F) P (lone (b.atR a (.code c :: .inLoop c :: k)) cs w) b k cs e a' w' := by
    intro m
    induction m using Nat.strongRecOn with
    | _ m ih =>
      intro a w hI
      obtain ⟨e, a₁, w₁, hq, harr⟩ := round a w m hI b (.inLoop c :: k) cs hro hb hr
      cases e with
      | normal =>
        obtain ⟨m', hI₁, hlt⟩ := hq
        obtain ⟨e₂, a₂, w₂, hq₂, harr₂⟩ := ih m' hlt a₁ w₁ hI₁
        exact ⟨e₂, a₂, w₂, hq₂, .of_steps (StepsIn.trans harr (.one (fenced_calm hb hr rfl) stepR_inLoop)) harr₂⟩
      | exit id => exact ⟨_, a₁, w₁, hq, .pass (x := .inLoop c) rfl (fun _ _ => .inl (by simp)) harr⟩
      | goto l => exact ⟨_, a₁, w₁, hq, .pass (x := .inLoop c) rfl (fun _ _ => .inl (by simp)) harr⟩
      | ret => exact ⟨_, a₁, w₁, hq, .pass (x := .inLoop c) rfl (fun _ _ => .inl (by simp)) harr⟩
      | panic ch => exact ⟨_, a₁, w₁, hq, .pass (x := .inLoop c) rfl (fun _ _ => .inl (by simp)) harr⟩
      | outgrown => exact ⟨_, a₁, w₁, hq, .pass (x := .inLoop c) rfl (fun _ _ => .inl (by simp)) harr⟩
  obtain ⟨e, a', w', hq, harr⟩ := key m0 a w h₀
  exact ⟨e, a', w', hq, .of_steps (.one (fenced_calm hb hr rfl) stepR_loop) harr⟩

theorem wpQuiet_of_R {P : Program} {ops : Array Oper} {C : World → Prop} {Q : Act → Prop} (hC : ∀ w w', C w → Frm w w' → C w') : ∀ {l : List Oper} {a : Act}, wpR P ops Frm C Q l a → wpQuiet P ops C Q l a
  | [], _, hh => hh
  | o :: l, a, hh => by
    simp only [wpR] at hh
    simp only [wpQuiet]
    split
    · rename_i hw
      rw [if_pos hw] at hh
      obtain ⟨v, h1, h2⟩ := hh
      refine ⟨v, fun w hw => ?_, wpQuiet_of_R hC h2⟩
      have h3 := h1 w hw
      unfold Oper.quietAt
      generalize (execOp a.eval o).run P w = r at *
      cases r with
      | ok x w' =>
        cases x <;> simp only [quietR] at h3 <;> simp only [Oper.quietUpon]
        case value u => exact h3
        case skip => exact h3
        case enter f args =>
          obtain ⟨rfl, hc⟩ := h3
          exact ⟨rfl, hc.mono fun e w'' ⟨he, hf⟩ => ⟨he, hC _ _ hw hf⟩⟩
      | halt x w' => simp only [quietR] at h3
    · rename_i hw; rw [if_neg hw] at hh; exact wpQuiet_of_R hC hh

/-! ## Code -/
def codeIn (n : Nat) (inr : Bool) : Code → Bool
  | .region _ ops _ => ops.toList.all (operIn n inr ops)
  | .seq a b => codeIn n inr a && codeIn n inr b
  | .cond c a b => opIn n c && codeIn n inr a && codeIn n inr b
  | .block _ b => codeIn n inr b
  | .loop b => codeIn n inr b
  | .scope b => codeIn n inr b
  | .rangeFunc f ps a b => opIn n f && ps.all (fun t => Nat.blt t n) && codeIn n true a && codeIn n true b
  | _ => true

def WC (P : Program) (n : Nat) (ds : Ctx) (c : Code) (Q : Exit → Ctx → Env → World → Prop) (σ : Env) (w : World) : Prop :=
  codeIn n ds.ro.isSome c = true → c.wpIn (fen ds.ro) 0 P (lft n ds.ro Q) (act n ds.ds σ) w

def thn (K : Ctx → Env → World → Prop) (Q : Exit → Ctx → Env → World → Prop) : Exit → Ctx → Env → World → Prop
  | .normal, c, σ, w => K c σ w
  | e, c, σ, w => Q e c σ w
/-- what a loop's round, or a piece, leaves: what is deferred is as it was -/
def thl (c : Ctx) (K : Env → World → Prop) (Q : Exit → Ctx → Env → World → Prop) : Exit → Ctx → Env → World → Prop
  | .normal, c', σ, w => c' = c ∧ K σ w
  | e, c', σ, w => Q e c' σ w
def ngt (Q : Exit → Ctx → Env → World → Prop) : Exit → Ctx → Env → World → Prop
  | .goto _, _, _, _ => False
  | e, c, σ, w => Q e c σ w
def blk (id : Nat) (Q : Exit → Ctx → Env → World → Prop) : Exit → Ctx → Env → World → Prop
  | .exit id', c, σ, w => match Nat.beq id' id with | true => Q .normal c σ w | false => Q (.exit id') c σ w
  | e, c, σ, w => Q e c σ w

/-- the program's regions may come in any order that Go leaves open -/
class Mix (P : Program) : Prop where
  ok : P.follows .mixedOrders = true

section
variable {P : Program} {n : Nat} {ds : Ctx} {Q : Exit → Ctx → Env → World → Prop} {K : Ctx → Env → World → Prop} {L : Env → World → Prop} {σ : Env} {w : World} {a b c : Code}

theorem thn_normal (h : K ds σ w) : thn K Q .normal ds σ w := h
theorem thn_ret (h : Q .ret ds σ w) : thn K Q .ret ds σ w := h
theorem thn_exit {i : Nat} (h : Q (.exit i) ds σ w) : thn K Q (.exit i) ds σ w := h
theorem thn_panic {ch : List PanicEntry} (h : Q (.panic ch) ds σ w) : thn K Q (.panic ch) ds σ w := h
theorem thl_normal (h : L σ w) : thl ds L Q .normal ds σ w := ⟨rfl, h⟩
theorem thl_ret {c : Ctx} (h : Q .ret ds σ w) : thl c L Q .ret ds σ w := h
theorem thl_exit {c : Ctx} {i : Nat} (h : Q (.exit i) ds σ w) : thl c L Q (.exit i) ds σ w := h
theorem thl_panic {c : Ctx} {ch : List PanicEntry} (h : Q (.panic ch) ds σ w) : thl c L Q (.panic ch) ds σ w := h
theorem blk_normal {i : Nat} (h : Q .normal ds σ w) : blk i Q .normal ds σ w := h
theorem blk_ret {i : Nat} (h : Q .ret ds σ w) : blk i Q .ret ds σ w := h
theorem blk_panic {i : Nat} {ch : List PanicEntry} (h : Q (.panic ch) ds σ w) : blk i Q (.panic ch) ds σ w := h
theorem blk_here {i : Nat} (h : Q .normal ds σ w) : blk i Q (.exit i) ds σ w := by simpa [blk, Nat.beq_refl] using h
theorem blk_on {i j : Nat} (hij : Nat.beq j i = false) (h : Q (.exit j) ds σ w) : blk i Q (.exit j) ds σ w := by simpa [blk, hij] using h

theorem WC_region {id : Nat} {ops : List Oper} (h : WL P n ds ops.toArray Q ops σ w) : WC P n ds (.region id ops.toArray false) Q σ w := fun hin =>
  wpIn_region_lit (h (by simpa [codeIn] using hin))

theorem WC_draw [hm : Mix P] {id : Nat} {ops : List Oper} (hro : ds.ro = none) (hB : Region.lexB .any ops.toArray = true)
    (h : QL P n ds ops.toArray (Frm w) (fun σ' => ∀ w', Frm w w' → Q .normal ds σ' w') ops σ) : WC P n ds (.region id ops.toArray true) Q σ w := by
  obtain ⟨dd, ro⟩ := ds
  dsimp only at hro
  subst hro
  intro hin
  refine wpIn_wide.2 (wp_region_quiet hm.ok hB (Frm.drawn (Frm.refl w)) ?_)
  have h1 := h (by simpa [codeIn] using hin)
  refine wpQuiet_of_R (fun _ _ h k => Frm.trans h k) (wpR_mono ?_ (by simpa using h1))
  rintro a ⟨σ', rfl, hq⟩ w' hw'
  exact ⟨dd, σ', rfl, hq w' hw'⟩

/-- a drawn region: quiet operations, then one that makes something, then the rest in order -/
def QX (P : Program) (w0 : World) (x : Oper) (σ : Env) (K : Env → World → Prop) : Prop :=
  ∃ V : Value → World → Prop, (∀ u w w', V u w → Frm w w' → V u w') ∧ (∀ w, Frm w0 w → ∃ u w1, (execOp (evl σ) x).run P w = .ok (.value u) w1 ∧ Frm w w1 ∧ V u w1) ∧ ∀ u w, Frm w0 w → V u w → K (updO σ x.dst u) w
theorem WC_drawX [hm : Mix P] {id : Nat} {l1 l2 : List Oper} {x : Oper} (hro : ds.ro = none) (hB : Region.lexTailB .any (l1 ++ x :: l2).toArray (l1.length + 1) = true) (hx : x.guard = none)
    (h : QL P n ds (l1 ++ x :: l2).toArray (Frm w) (fun σ' => QX P w x σ' fun σ'' w' => WL P n ds (l1 ++ x :: l2).toArray Q l2 σ'' w') l1 σ) : WC P n ds (.region id (l1 ++ x :: l2).toArray true) Q σ w := by
  obtain ⟨dd, ro⟩ := ds
  dsimp only at hro
  subst hro
  intro hin
  have hin' : (l1 ++ x :: l2).all (operIn n false (l1 ++ x :: l2).toArray) = true := by simpa [codeIn] using hin
  rw [List.all_append, List.all_cons, Bool.and_eq_true, Bool.and_eq_true] at hin'
  obtain ⟨i1, i2, i3⟩ := hin'
  refine wpIn_region_made (R := Frm) (C := Frm w) hm.ok (fun a b h k => Frm.trans h k) (Frm.drawn (Frm.refl w)) hB hx (wpR_mono ?_ (h i1))
  rintro a ⟨σ', rfl, V, hV0, hV1, hV2⟩
  refine ⟨V, ⟨hV0, fun w' hw' => by rw [act_exec i2]; exact hV1 w' hw'⟩, fun u w' hw' hu => ?_⟩
  rw [act_put (operIn_dst i2)]
  exact hV2 u w' hw' hu i3
theorem WC_drawT [hm : Mix P] {id : Nat} {l1 l2 : List Oper} (hro : ds.ro = none) (hB : Region.lexTailB .any (l1 ++ l2).toArray l1.length = true)
    (h : QL P n ds (l1 ++ l2).toArray (Frm w) (fun σ' => ∀ w', Frm w w' → WL P n ds (l1 ++ l2).toArray Q l2 σ' w') l1 σ) : WC P n ds (.region id (l1 ++ l2).toArray true) Q σ w := by
  obtain ⟨dd, ro⟩ := ds
  dsimp only at hro
  subst hro
  intro hin
  have hin' : (l1 ++ l2).all (operIn n false (l1 ++ l2).toArray) = true := by simpa [codeIn] using hin
  rw [List.all_append, Bool.and_eq_true] at hin'
  obtain ⟨i1, i3⟩ := hin'
  refine wpIn_region_tail (R := Frm) (C := Frm w) hm.ok (fun a b h k => Frm.trans h k) (Frm.drawn (Frm.refl w)) hB (wpR_mono ?_ (h i1))
  rintro a ⟨σ', rfl, hq⟩
  exact fun w' hw' => hq w' hw' i3

theorem WC_seq (h : WC P n ds a (thn (fun ds σ w => WC P n ds b Q σ w) Q) σ w) : WC P n ds (.seq a b) Q σ w := fun hin => by
  simp only [codeIn, Bool.and_eq_true] at hin
  refine wpIn_seq (wpIn_mono (h hin.1) ?_)
  rintro e a' w' ⟨dd, σ', rfl, hq⟩
  cases e <;> first | exact hq hin.2 | exact ⟨dd, σ', rfl, hq⟩
theorem WC_skip (h : Q .normal ds σ w) : WC P n ds .skip Q σ w := fun _ => wpIn_skip ⟨ds.ds, σ, rfl, h⟩
theorem WC_label {l : Nat} (h : Q .normal ds σ w) : WC P n ds (.label l) Q σ w := fun _ => wpIn_label ⟨ds.ds, σ, rfl, h⟩
theorem WC_exit {i : Nat} (h : Q (.exit i) ds σ w) : WC P n ds (.exit i) Q σ w := fun _ => wpIn_exit ⟨ds.ds, σ, rfl, h⟩
theorem WC_ret (h : Q .ret ds σ w) : WC P n ds .ret Q σ w := fun _ => wpIn_ret ⟨ds.ds, σ, rfl, h⟩
theorem WC_block {i : Nat} (h : WC P n ds b (blk i Q) σ w) : WC P n ds (.block i b) Q σ w := fun hin => by
  refine wpIn_block (wpIn_mono (h hin) ?_)
  rintro e a' w' ⟨dd, σ', rfl, hq⟩
  cases e <;> try exact ⟨dd, σ', rfl, hq⟩
  rename_i id'
  simp only [Exit.inBlock]
  by_cases e : id' = i
  · subst e; simp only [if_true]; exact ⟨dd, σ', rfl, by simpa [blk, Nat.beq_refl] using hq⟩
  · rw [if_neg e]
    have : Nat.beq id' i = false := by
      cases hb : Nat.beq id' i
      · rfl
      · exact absurd (Nat.eq_of_beq_eq_true hb) e
    exact ⟨dd, σ', rfl, by simpa [blk, this] using hq⟩
theorem ngt_normal (h : Q .normal ds σ w) : ngt Q .normal ds σ w := h
theorem ngt_ret (h : Q .ret ds σ w) : ngt Q .ret ds σ w := h
theorem ngt_exit {i : Nat} (h : Q (.exit i) ds σ w) : ngt Q (.exit i) ds σ w := h
theorem ngt_panic {ch : List PanicEntry} (h : Q (.panic ch) ds σ w) : ngt Q (.panic ch) ds σ w := h
theorem WC_scope (hro : ds.ro = none) (h : WC P n ds b (ngt Q) σ w) : WC P n ds (.scope b) Q σ w := by
  obtain ⟨dd, ro⟩ := ds
  dsimp only at hro
  subst hro
  intro hin
  refine wpIn_wide.2 (wp_scope_straight (wp_mono (wpIn_wide.1 (h hin)) ?_))
  rintro e a' w' ⟨dd, σ', rfl, hq⟩
  cases e <;> first | exact ⟨dd, σ', rfl, hq⟩ | exact hq.elim
theorem WC_cond {x : Operand} {t : Bool} (hc : evl σ x = .bool t) (ht : t = true → WC P n ds a Q σ w) (hf : t = false → WC P n ds b Q σ w) : WC P n ds (.cond x a b) Q σ w := fun hin => by
  simp only [codeIn, Bool.and_eq_true] at hin
  refine wpIn_cond_split (t := t) ?_ (fun h => ht h hin.1.2) (fun h => hf h hin.2)
  rw [act_eval hin.1.1, hc]
theorem WC_dec {x : Operand} {p : Prop} [Decidable p] (hc : evl σ x = .bool (decide p)) (ht : p → WC P n ds a Q σ w) (hf : ¬ p → WC P n ds b Q σ w) : WC P n ds (.cond x a b) Q σ w :=
  WC_cond hc (fun h => ht (of_decide_eq_true h)) (fun h => hf (of_decide_eq_false h))
theorem WC_yes {x : Operand} (hc : evl σ x = .bool true) (ht : WC P n ds a Q σ w) : WC P n ds (.cond x a b) Q σ w := WC_cond hc (fun _ => ht) (fun h => by cases h)
theorem WC_no {x : Operand} (hc : evl σ x = .bool false) (hf : WC P n ds b Q σ w) : WC P n ds (.cond x a b) Q σ w := WC_cond hc (fun h => by cases h) (fun _ => hf)

theorem WC_mono {Q' : Exit → Ctx → Env → World → Prop} (h : WC P n ds c Q σ w) (hq : ∀ e c σ w, Q e c σ w → Q' e c σ w) : WC P n ds c Q' σ w := fun hin =>
  wpIn_mono (h hin) fun _ _ _ ⟨dd, σ', ha, h⟩ => ⟨dd, σ', ha, hq _ _ _ _ h⟩

/-- slots and what lies in them -/
def Has (σ : Env) : List (Nat × Value) → Prop
  | [] => True
  | (d, v) :: l => σ d = v ∧ Has σ l
def updL (σ : Env) : List (Nat × Value) → Env
  | [] => σ
  | (d, v) :: l => upd (updL σ l) d v
theorem updL_has {σ : Env} : ∀ {l : List (Nat × Value)}, Has σ l → updL σ l = σ
  | [], _ => rfl
  | (d, v) :: l, ⟨h, hl⟩ => by simp only [updL]; rw [updL_has hl]; exact upd_self h

/-- a loop: the ghost state X, the slots that are known, what else holds, a measure -/
theorem WC_loop {X : Type} (sl : X → List (Nat × Value)) (I : X → World → Prop) (μ : X → Nat) (x0 : X) (h0 : Has σ (sl x0)) (hI : I x0 w)
    (round : ∀ (x : X) (w : World) (ρ : Env), I x w → WC P n ds c (thl ds (fun σ' w' => ∃ x', Has σ' (sl x') ∧ I x' w' ∧ μ x' < μ x) Q) (updL ρ (sl x)) w) : WC P n ds (.loop c) Q σ w := fun hin => by
  refine wp_loop' (fun a w' m => ∃ x σ', a = act n ds.ds σ' ∧ Has σ' (sl x) ∧ I x w' ∧ μ x = m) ⟨x0, σ, rfl, h0, hI, rfl⟩ ?_
  rintro a w' m ⟨x, σ', rfl, hh, hi, rfl⟩
  have h1 := round x w' σ' hi hin
  rw [updL_has hh] at h1
  refine wpIn_mono h1 ?_
  rintro e a' w'' ⟨dd, σ'', rfl, hq⟩
  cases e <;> try exact ⟨dd, σ'', rfl, hq⟩
  obtain ⟨hds, x', h2, h3, h4⟩ := hq
  have hdd : dd = ds.ds := congrArg Ctx.ds hds
  subst hdd
  exact ⟨_, ⟨x', σ'', rfl, h2, h3, rfl⟩, h4⟩
end

/-! ## A function -/
def ent : List Value → Nat → Env
  | [], _ => fun _ => undef
  | v :: vs, k => upd (ent vs (k + 1)) k v
theorem ent_get : ∀ (l : List Value) (k t : Nat), ent l k (k + t) = l.getD t undef
  | [], _, _ => by simp [ent]
  | v :: vs, k, 0 => by simp [ent, upd_same]
  | v :: vs, k, t + 1 => by
    have h := ent_get vs (k + 1) t
    rw [show k + 1 + t = k + (t + 1) from by omega] at h
    simp only [ent]
    rw [upd_ne _ _ (by omega), h]
    simp

/-- a function's end: what was deferred is carried out, then it returns a value -/
def fpost (P : Program) (n : Nat) (fn : Func) (R : Value → World → Prop) : Exit → Ctx → Env → World → Prop
  | .normal, c, σ, w | .ret, c, σ, w => LeavesInM Fence.wide 0 P fn (act n c.ds σ).tmps (fun e w' => ∃ v, e = .returned v ∧ R v w') c.ds .returning w
  | .panic ch, c, σ, w => LeavesInM Fence.wide 0 P fn (act n c.ds σ).tmps (fun e w' => ∃ v, e = .returned v ∧ R v w') c.ds (.panicking ch) w
  | _, _, _, _ => False
/-- .. which may panic instead -/
def fpostE (P : Program) (n : Nat) (fn : Func) (R : Ending → World → Prop) : Exit → Ctx → Env → World → Prop
  | .normal, c, σ, w | .ret, c, σ, w => LeavesInM Fence.wide 0 P fn (act n c.ds σ).tmps R c.ds .returning w
  | .panic ch, c, σ, w => LeavesInM Fence.wide 0 P fn (act n c.ds σ).tmps R c.ds (.panicking ch) w
  | _, _, _, _ => False

section
variable {P : Program} {n : Nat} {fn : Func} {R : Value → World → Prop} {σ : Env} {w : World} {ds : Ctx}

theorem ent_tmps {l : List Value} (hl : Nat.ble l.length n = true) (hn : fn.ntmps = n) : ({ tmps := l.toArray ++ Array.replicate (fn.ntmps - l.toArray.size) undef, defers := [] } : Act) = act n [] (ent l 0) := by
  have hl' : l.length ≤ n := by simpa using hl
  simp only [act, hn]
  congr 1
  apply Array.ext
  · simp; omega
  · intro i h1 h2
    have hi : i < n := by simpa using h2
    have := ent_get l 0 i
    rw [Nat.zero_add] at this
    simp only [Array.getElem_ofFn, this]
    rw [Array.getElem_append]
    split
    · rename_i h3; simp only [List.size_toArray] at h3; simp [h3]
    · rename_i h3; simp only [List.size_toArray] at h3; simp [Nat.not_lt.1 h3]
theorem call_introE {f : FuncId} {c : Code} {l : List Value} {R : Ending → World → Prop} (hf : P.funcs[f]? = some fn) (hb : fn.body = some c) (hn : fn.ntmps = n) (hin : codeIn n false c = true) (hl : Nat.ble l.length n = true)
    (h : WC P n ⟨[], none⟩ c (fpostE P n fn R) (ent l 0) w) : Calls P f l.toArray w R := by
  refine (callsIn_wide (n := 0)).1 (callsIn_of_wp_marks hf hb trivial ?_)
  rw [ent_tmps hl hn]
  refine wpIn_mono (h hin) ?_
  rintro ex a' w' ⟨dd, σ', rfl, hq⟩
  cases ex <;> first | exact hq | exact hq.elim
theorem call_intro {f : FuncId} {c : Code} {l : List Value} (hf : P.funcs[f]? = some fn) (hb : fn.body = some c) (hn : fn.ntmps = n) (hin : codeIn n false c = true) (hl : Nat.ble l.length n = true)
    (h : WC P n ⟨[], none⟩ c (fpost P n fn R) (ent l 0) w) : CallsR P f l.toArray w R :=
  call_introE hf hb hn hin hl (WC_mono h fun e c σ w hq => by cases e <;> exact hq)

theorem act_getD {dd : List Deferred} {t : Nat} (h : Nat.blt t n = true) : (act n dd σ).tmps.getD t undef = σ t := by
  have ht : t < n := by simpa using h
  simp [act, ht]
theorem fp_of {ex : Exit} (hex : ex = .ret ∨ ex = .normal) (hd : ds.ds = []) {v : Value} (hv : (results fn (act n ds.ds σ).tmps).run P w = .ok v w) (h : R v w) : fpost P n fn R ex ds σ w := by
  obtain ⟨dd, ro⟩ := ds
  dsimp only at hd
  subst hd
  rcases hex with rfl | rfl <;> exact ⟨v, hv, v, rfl, h⟩
theorem fp0 {ex : Exit} (hex : ex = .ret ∨ ex = .normal) (hr : fn.results = #[]) (h : R (.tuple #[]) w) (hd : ds.ds = [] := by rfl) : fpost P n fn R ex ds σ w := fp_of hex hd (results_none hr _ _ _) h
theorem fp1 {t : Nat} {ex : Exit} (hex : ex = .ret ∨ ex = .normal) (hr : fn.results = #[.tmp t]) (ht : Nat.blt t n = true) (h : R (σ t) w) (hd : ds.ds = [] := by rfl) : fpost P n fn R ex ds σ w :=
  fp_of hex hd (results_tmp hr _ _ _) (by rw [act_getD ht]; exact h)
theorem fp2 {t u : Nat} {ex : Exit} (hex : ex = .ret ∨ ex = .normal) (hr : fn.results = #[.tmp t, .tmp u]) (ht : Nat.blt t n = true) (hu : Nat.blt u n = true) (h : R (.tuple #[σ t, σ u]) w) (hd : ds.ds = [] := by rfl) : fpost P n fn R ex ds σ w :=
  fp_of hex hd (results_tmp2 hr _ _ _) (by rw [act_getD ht, act_getD hu]; exact h)
theorem fp3 {t u s : Nat} {ex : Exit} (hex : ex = .ret ∨ ex = .normal) (hr : fn.results = #[.tmp t, .tmp u, .tmp s]) (ht : Nat.blt t n = true) (hu : Nat.blt u n = true) (hs : Nat.blt s n = true) (h : R (.tuple #[σ t, σ u, σ s]) w) (hd : ds.ds = [] := by rfl) : fpost P n fn R ex ds σ w := by
  refine fp_of hex hd (v := .tuple #[(act n ds.ds σ).tmps.getD t undef, (act n ds.ds σ).tmps.getD u undef, (act n ds.ds σ).tmps.getD s undef]) ?_ ?_
  · simp [results, hr]
  · rw [act_getD ht, act_getD hu, act_getD hs]; exact h
/-- the mark of a loop over a function, at the function's end -/
theorem fp_mark {ex : Exit} {D : Nat} {dd : List Deferred} {ro : Option Nat} (hex : ex = .ret ∨ ex = .normal) (hD : w.heap[D]? = some (.deferred (some []))) (h : fpost P n fn R ex ⟨dd, ro⟩ σ (w.putObj D (.deferred none))) :
    fpost P n fn R ex ⟨{ target := .collected D, args := #[] } :: dd, ro⟩ σ w := by
  rcases hex with rfl | rfl <;> exact ⟨by simp, .inl ⟨D, _, rfl, run_takeDeferred hD, h⟩⟩
end
end Go.Sv

/-! ## Frames of values that may not be there: a value and whether it is -/
namespace Go.Sv
structure GV where
  v : Value
  g : Bool
abbrev GE := Nat → GV
def rv (x : GV) : Value := match x with | ⟨v, true⟩ => v | ⟨_, false⟩ => undef
def real (σ : GE) : Env := fun t => rv (σ t)
def updG (σ : GE) (d : Nat) (x : GV) : GE := fun t => match Nat.beq t d with | true => x | false => σ t
def lif (ρ : Env) : GE := fun t => ⟨ρ t, true⟩
theorem real_lif (ρ : Env) : real (lif ρ) = ρ := rfl
theorem real_upd (σ : GE) (d : Nat) (x : GV) : upd (real σ) d (rv x) = real (updG σ d x) := by
  funext t; simp only [upd, real, updG]; cases Nat.beq t d <;> rfl
theorem realB (σ : GE) (d t : Nat) (x : GV) : real (updG σ d x) t = bif t == d then rv x else real σ t := by rw [← real_upd, updB]
theorem rv_true (v : Value) : rv ⟨v, true⟩ = v := rfl
def updGL (σ : GE) : List (Nat × Value) → GE
  | [] => σ
  | (d, v) :: l => updG (updGL σ l) d ⟨v, true⟩
theorem real_updL (ρ : Env) : ∀ l, updL ρ l = real (updGL (lif ρ) l)
  | [] => rfl
  | (d, v) :: l => by simp only [updL, updGL]; rw [real_updL ρ l]; exact real_upd _ d ⟨v, true⟩
def entG : List Value → Nat → GE
  | [], _ => fun _ => ⟨undef, true⟩
  | v :: vs, k => updG (entG vs (k + 1)) k ⟨v, true⟩
theorem real_ent : ∀ (l : List Value) (k : Nat), ent l k = real (entG l k)
  | [], _ => rfl
  | v :: vs, k => by simp only [ent, entG]; rw [real_ent vs]; exact real_upd _ k ⟨v, true⟩
def gvl (σ : GE) : Operand → GV
  | .tmp t => σ t
  | .const v => ⟨v, true⟩
  | .global g => ⟨.pointer (some ⟨g, 0, none⟩), true⟩
  | .func f => ⟨.func (.func f) #[] #[], true⟩
theorem evr {σ : GE} {x : Operand} {v : Value} {g : Bool} (h : gvl σ x = ⟨v, g⟩) (hg : g = true) : evl (real σ) x = v := by
  subst hg
  cases x <;> simp only [gvl] at h
  · simp only [evl, real, h, rv]
  all_goals (injection h)
theorem evl_real (σ : GE) (x : Operand) (h : (gvl σ x).g = true) : evl (real σ) x = (gvl σ x).v := evr (v := (gvl σ x).v) rfl h

/-- a Bool out of two: what '&&' and '||' leave -/
def pkb (c a b : Bool) : Bool := bif c then a else b
@[simp] theorem pkb_or (c e : Bool) : pkb c true e = (c || e) := by cases c <;> rfl
@[simp] theorem pkb_and (c e : Bool) : pkb c e false = (c && e) := by cases c <;> rfl

def kEq : IntKind → IntKind → Bool
  | .i8, .i8 | .i16, .i16 | .i32, .i32 | .i64, .i64 | .u8, .u8 | .u16, .u16 | .u32, .u32 | .u64, .u64 => true
  | _, _ => false
theorem kEq_eq {k k' : IntKind} (h : kEq k k' = true) : k = k' := by cases k <;> cases k' <;> simp_all [kEq]

/-- comparisons -/
def cmpV : BinOp → Value → Value → Option Value
  | .lss, .int k a, .int k' b => match kEq k k' with | true => some (.bool (decide (a < b))) | false => none
  | .leq, .int k a, .int k' b => match kEq k k' with | true => some (.bool (decide (a ≤ b))) | false => none
  | .gtr, .int k a, .int k' b => match kEq k k' with | true => some (.bool (decide (b < a))) | false => none
  | .geq, .int k a, .int k' b => match kEq k k' with | true => some (.bool (decide (b ≤ a))) | false => none
  | .eql, .int k a, .int k' b => match kEq k k' with | true => some (.bool (decide (a = b))) | false => none
  | .neq, .int k a, .int k' b => match kEq k k' with | true => some (.bool (decide (a ≠ b))) | false => none
  | .eql, .string ⟨⟨a⟩⟩, .string ⟨⟨b⟩⟩ => some (.bool (decide (a = b)))
  | .neq, .string ⟨⟨a⟩⟩, .string ⟨⟨b⟩⟩ => some (.bool (decide (a ≠ b)))
  | _, _, _ => none

/-- what an operation that looks at its operands alone yields, and what of them must be there -/
def ev1 (σ : GE) : Op → Option GV
  | .move x | .assign x => match gvl σ x with | ⟨v, g⟩ => some ⟨v, g⟩
  | .pick c a b => match gvl σ c, gvl σ a, gvl σ b with
    | ⟨.bool c, gc⟩, ⟨.bool a, ga⟩, ⟨.bool b, gb⟩ => some ⟨.bool (pkb c a b), gc && pkb c ga gb⟩
    | _, _, _ => none
  | .binOp op _ x y _ => match gvl σ x, gvl σ y with
    | ⟨v, gx⟩, ⟨u, gy⟩ => match cmpV op v u with
      | some r => some ⟨r, gx && gy⟩
      | none => none
  | .unOp .not _ x => match gvl σ x with
    | ⟨.bool c, g⟩ => some ⟨.bool (!c), g⟩
    | _ => none
  | .extract x i => match gvl σ x with
    | ⟨.tuple ⟨vs⟩, g⟩ => match vs[i]? with | some v => some ⟨v, g⟩ | none => none
    | _ => none
  | _ => none
end Go.Sv

namespace Go.Sv
theorem Y.val {P : Program} {σ : Env} {o : Oper} {w w' : World} {v : Value} (h : (execOp (evl σ) o).run P w = .ok (.value v) w') : Y P σ o w v w' := .inl h
theorem Y.skip {P : Program} {σ : Env} {o : Oper} {w w' : World} (h : (execOp (evl σ) o).run P w = .ok .skip w') : Y P σ o w undef w' := .inr ⟨h, rfl⟩
attribute [irreducible] WL WC QL thn thl blk ngt Y YQ
end Go.Sv
