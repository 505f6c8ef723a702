/-
  Our texts SvRec, SvTpE, SvJmp, SvTpG, SvRec2, SvTpH, SvTokJ, SvTm, SvTpL, SvEbD, SvGd, SvEbE, SvJn, SvPt, SvEbF, SvPost, SvOpen, SvOpnAt, SvOpn18, SvOpn18c, SvOpnB, SvOpn, SvAsc, SvAscW, joined.
-/
import Derived.Test.YthgbpgjpnaanlaaDoorMg5
import Derived.RecoverIn
import Derived.WalkSmall
import Derived.Laws.Build
import Derived.ScopeJumps
import Derived.ChangeSame
import Derived.Test.YthgbpgjpnaanlaaDoorRows
import Derived.WalkKit
import Derived.ProofKit
import Derived.OpenShut
import Derived.JoinedCond
import Derived.Deep.Slices
import Derived.WideKeyArgs
import Derived.Lib.LaidTab
import Derived.Deep.DeepHandedRow
import Derived.Deep.DeepWitnessRowRef
/-
  Deferred functions that recover.
-/
set_option linter.unusedSimpArgs false
set_option linter.unusedVariables false
set_option linter.unnecessarySimpa false
namespace Go.Sv
open Go Go.RowKit

/-- what recover hands to a deferred function, by the mode of the frame below it, and how it leaves that mode -/
inductive Recov : FrameMode → Value → FrameMode → Prop
  | panicking (v : Value) (older : List PanicEntry) : Recov (.panicking ({ v := v, recovered := false } :: older)) v (.panicking ({ v := v, recovered := true } :: older))
  | returning : Recov .returning .nilIface .returning
/-- a deferred function's end, the frame below in a mode -/
def fpostD (P : Program) (n : Nat) (fn : Func) (u : FrameMode) (R : Ending → FrameMode → World → Prop) : Exit → Ctx → Env → World → Prop
  | .normal, c, σ, w | .ret, c, σ, w => c.ds = [] ∧ ∃ v, (results fn (act n c.ds σ).tmps).run P w = .ok v w ∧ R (.returned v) u w
  | .panic ch, c, _, w => c.ds = [] ∧ R (.panicked ch) u w
  | _, _, _, _ => False
section
variable {P : Program} {n : Nat} {fn : Func} {R : Ending → FrameMode → World → Prop} {u u' : FrameMode} {w : World}
theorem postS_of {c₀ : Frame} {cs : List Frame} {e : Exit} {a : Act} (h : lft n none (fpostD P n fn u' R) e a w) : bodyPostS P fn c₀ cs R e a ({ c₀ with mode := u' } :: cs) w := by
  obtain ⟨ds, σ, rfl, hq⟩ := h
  cases e with
  | normal => exact ⟨hq.1, u', rfl, hq.2⟩
  | ret => exact ⟨hq.1, u', rfl, hq.2⟩
  | panic ch => exact ⟨hq.1, u', rfl, hq.2⟩
  | exit id => exact hq.elim
  | goto l => exact hq.elim
  | outgrown => exact hq.elim
/-- the entry of a deferred function whose first operation is recover -/
theorem enterD {f : FuncId} {id : Nat} {o : Oper} {ops : List Oper} {rest : Code} {l : List Value} {v : Value}
    (hf : P.funcs[f]? = some fn) (hb : fn.body = some (.seq (.region id (o :: ops).toArray false) rest)) (hn : fn.ntmps = n)
    (hin : codeIn n false (.seq (.region id (o :: ops).toArray false) rest) = true) (hl : Nat.ble l.length n = true) (hg : o.guard = none)
    (hrun : (execOp (evl (ent l 0)) o).run P w = .ok .recover w) (hu : Recov u v u')
    (h : WL P n ⟨[], none⟩ (o :: ops).toArray (thn (fun c σ w => WC P n c rest (fpostD P n fn u' R) σ w) (fpostD P n fn u' R)) ops (updO (ent l 0) o.dst v) w) :
    CallsDIn Fence.wide 0 P f l.toArray u w R := by
  refine callsDIn_of_wpSIn hf hb trivial fun c₀ cs hm => ?_
  rw [ent_tmps hl hn]
  have hin0 := hin
  simp only [codeIn, Bool.and_eq_true] at hin0
  obtain ⟨hin1, hin2⟩ := hin0
  have hin3 : (o :: ops).all (operIn n false (o :: ops).toArray) = true := hin1
  rw [List.all_cons, Bool.and_eq_true] at hin3
  obtain ⟨hino, hinl⟩ := hin3
  refine wpSIn_seq ?_
  intro b k hb' hro hF hroom
  obtain ⟨cs', hrec, hlen⟩ : ∃ cs', ((recoverD (c₀ :: cs) = some (v, cs')) ∨ (recoverD (c₀ :: cs) = none ∧ v = .nilIface ∧ cs' = c₀ :: cs)) ∧ cs' = { c₀ with mode := u' } :: cs := by
    cases hu with
    | panicking v older => exact ⟨_, .inl (by simp only [recoverD, hm]), rfl⟩
    | returning => exact ⟨c₀ :: cs, .inr ⟨by simp only [recoverD, hm], rfl, rfl⟩, by rw [← hm]⟩
  have hroom' : (Fence.wide).room (cs'.length + 1 + 0) := by rw [hlen]; exact hroom
  have hro' : b.roundOf = (Fence.wide).round := hro
  unfold WL at h
  have hl1 := h hinl
  have hl2 : wpOpsIn Fence.wide 0 P (o :: ops).toArray (lft n none (thn (fun c σ w => WC P n c rest (fpostD P n fn u' R) σ w) (fpostD P n fn u' R))) (List.range' 1 ops.length) (act n [] (updO (ent l 0) o.dst v)) w := by
    rw [wpOpsIn_eq_wpListIn ops 1 (by intro j; rw [Nat.add_comm]; simp)]
    exact hl1
  obtain ⟨e, a', w', hq, harr⟩ := wp_opsIn _ _ _ hl2 b k cs' hro' hF hroom'
  have ho : (o :: ops).toArray[0]? = some o := by simp
  have habout : ∀ f, o.about P w (act n [] (ent l 0)).eval = some f → Fence.wide.fn f := fun _ _ => trivial
  have h0 : (lone (b.atR (act n [] (ent l 0)) (.inRegion (o :: ops).toArray (0 :: List.range' 1 ops.length) :: k)) (c₀ :: cs) w).fenced P Fence.wide := fenced_oper hF hroom ho habout
  have hw : Region.wanted o (yielded (o :: ops).toArray (act n [] (ent l 0)).tmps) = true := by simp [Region.wanted, hg]
  have hgo := stepGR_op (P := P) (b := b) (a := act n [] (ent l 0)) (k := k) (cs := c₀ :: cs) (w := w) (rest := List.range' 1 ops.length) ho hw
  rw [hro, Oper.semAt_none] at hgo
  have hfin : ∀ v, (b.atR (act n [] (ent l 0)) (.inRegion (o :: ops).toArray (0 :: List.range' 1 ops.length) :: k)).finish v = b.atR ((act n [] (ent l 0)).put o.dst v) (.inRegion (o :: ops).toArray (List.range' 1 ops.length) :: k) := by
    intro v; rw [Frame.finish_atR, ho]; rfl
  have hr : (execOp (act n [] (ent l 0)).eval o).run P w = .ok .recover w := by rw [act_exec hino]; exact hrun
  have hk : (b.atR (act n [] (ent l 0)) (.inRegion (o :: ops).toArray (0 :: List.range' 1 ops.length) :: k)).kind = .deferred := hb'
  have htr := tryRecover_deferred hk (c₀ :: cs)
  have hput : (act n [] (ent l 0)).put o.dst v = act n [] (updO (ent l 0) o.dst v) := act_put (operIn_dst hino)
  have hstep : ArrivesIn (Machine.fenced P Fence.wide) P (lone (b.atR (act n [] (ent l 0)) (.inRegion (o :: ops).toArray (0 :: List.range' 1 ops.length) :: k)) (c₀ :: cs) w) b k cs' e a' w' := by
    refine .of_steps (.one h0 (step_lone_go ?_)) harr
    rw [hgo, ← hput, ← hfin]
    simp only [Frame.atR, hro] at htr ⊢
    rcases hrec with hrec | ⟨hrec, hv, hcs⟩
    · simp [stepG.apply, hr, htr, hrec]
    · simp [stepG.apply, hr, htr, hrec, hv, hcs]
  refine ⟨e, a', cs', w', by rw [hlen]; rfl, ?_, .of_steps (.one (fenced_calm hF hroom rfl) stepR_region) ?_⟩
  · cases e with
    | normal =>
      obtain ⟨ds', σ', rfl, hq⟩ := hq
      unfold thn at hq
      dsimp only at hq
      refine wpSIn_of_wpIn rfl ?_
      unfold WC at hq
      refine wpIn_mono (hq hin2) fun e a w' h => ?_
      rw [hlen]
      exact postS_of h
    | ret =>
      obtain ⟨x, y, hx, hy⟩ := hq
      unfold thn at hy
      rw [hlen]
      exact postS_of (e := .ret) ⟨x, y, hx, hy⟩
    | panic ch =>
      obtain ⟨x, y, hx, hy⟩ := hq
      unfold thn at hy
      rw [hlen]
      exact postS_of (e := .panic ch) ⟨x, y, hx, hy⟩
    | exit id =>
      obtain ⟨x, y, hx, hy⟩ := hq
      unfold thn at hy
      exact False.elim hy
    | goto l =>
      obtain ⟨x, y, hx, hy⟩ := hq
      unfold thn at hy
      exact False.elim hy
    | outgrown =>
      obtain ⟨x, y, hx, hy⟩ := hq
      unfold thn at hy
      exact False.elim hy
  · have e2 : List.range (o :: ops).toArray.size = 0 :: List.range' 1 ops.length := by
      rw [List.range_eq_range']; simp [List.range'_succ]
    rw [e2]
    exact hstep
theorem enterDR {f : FuncId} {id : Nat} {o : Oper} {ops : List Oper} {rest : Code} {l : List Value} {v : Value} {d : Nat}
    (hf : P.funcs[f]? = some fn) (hb : fn.body = some (.seq (.region id (o :: ops).toArray false) rest)) (hn : fn.ntmps = n)
    (hin : codeIn n false (.seq (.region id (o :: ops).toArray false) rest) = true) (hl : Nat.ble l.length n = true) (hg : o.guard = none) (hd : o.dst = some d)
    (hrun : (execOp (evl (ent l 0)) o).run P w = .ok .recover w) (hu : Recov u v u')
    (h : WL P n ⟨[], none⟩ (o :: ops).toArray (thn (fun c σ w => WC P n c rest (fpostD P n fn u' R) σ w) (fpostD P n fn u' R)) ops (real (updG (entG l 0) d ⟨v, true⟩)) w) :
    CallsDIn Fence.wide 0 P f l.toArray u w R := by
  refine enterD hf hb hn hin hl hg hrun hu ?_
  rw [hd]
  unfold updO
  dsimp only
  rw [real_ent, show v = rv ⟨v, true⟩ from rfl, real_upd]
  exact h
theorem fpD0 {ex : Exit} {c : Ctx} {σ : Env} (hex : ex = .ret ∨ ex = .normal) (hr : fn.results = #[]) (h : R (.returned (.tuple #[])) u w) (hd : c.ds = [] := by rfl) : fpostD P n fn u R ex c σ w := by
  rcases hex with rfl | rfl
  · exact ⟨hd, _, results_none hr _ _ _, h⟩
  · exact ⟨hd, _, results_none hr _ _ _, h⟩
/-- at a function's end, a deferred function -/
theorem leave_fn {d : Deferred} {ds : List Deferred} {tmps : Array Value} {R : Ending → World → Prop} {fv : Fn} {cap : Array Value} {f : FuncId} {args : Array Value} (hu : u ≠ .run) (ht : d.target = .fn fv cap)
    (hi : (invoke d.target d.args).run P w = .ok (.enter f args) w)
    (h : CallsDIn Fence.wide 0 P f args u w fun
      | .returned _, u', w' => LeavesInM Fence.wide 0 P fn tmps R ds (settle u') w'
      | .panicked chain, u', w' => LeavesInM Fence.wide 0 P fn tmps R ds (raised u' chain) w'
      | .outgrown, _, w' => R .outgrown w') : LeavesInM Fence.wide 0 P fn tmps R (d :: ds) u w :=
  ⟨hu, .inr ⟨fun h => by simp [Fence.wide] at h, fv, cap, f, args, ht, hi, fun _ _ => trivial, h⟩⟩
end
/-- a call that returns, or panics -/
def CallsP (P : Program) (f : FuncId) (args : Array Value) (w : World) (R : Value → World → Prop) (S : List PanicEntry → World → Prop) : Prop :=
  Calls P f args w fun e w' => (∃ v, e = .returned v ∧ R v w') ∨ ∃ ch, e = .panicked ch ∧ S ch w'
section
variable {P : Program} {n : Nat} {ds : Ctx} {ops : Array Oper} {Q : Exit → Ctx → Env → World → Prop} {rest : List Oper} {σ : GE} {w : World} {v : Value} {d : Nat} {ty : TypeId} {pos : String} {af : Array Edge}
theorem wlcallP {f : FuncId} [hf : Fnc P f] {args : List Operand} {ats : Array TypeId} {R : Value → World → Prop} {S : List PanicEntry → World → Prop}
    (hc : CallsP P f (args.map (evl (real σ))).toArray w R S) (h : ∀ v w', R v w' → WL P n ds ops Q rest (real (updG σ d ⟨v, true⟩)) w') (hp : ∀ ch w', S ch w' → Q (.panic ch) ds (real σ) w') :
    WL P n ds ops Q (⟨some d, .call ⟨.value (.func f), args.toArray, ats⟩, ty, pos, af, none⟩ :: rest) (real σ) w :=
  WL_enter (R := R) (S := S) (by simp [Region.wanted]) (run_call_func (real σ) (some d) args.toArray ats ty pos af none w) (by simpa [CallsP] using hc) (fun v w' hr => by have := h v w' hr; rw [← real_upd] at this; exact this) hp
/-- an operation that panics -/
theorem wlpanic {o : Oper} {w' : World} (hg : o.guard = none) (hrun : (execOp (evl (real σ)) o).run P w = .halt (.panic v) w') (h : Q (.panic [{ v := v, recovered := false }]) ds (real σ) w') :
    WL P n ds ops Q (o :: rest) (real σ) w :=
  WL_upon (by simp [Region.wanted, hg]) fun _ K _ _ => by rw [hrun]; exact ⟨ds.ds, _, rfl, h⟩
theorem wlmki {t : TypeId} {x : Operand} (h : WL P n ds ops Q rest (real (updG σ d ⟨.iface t v, true⟩)) w) (hc : P.concrete t = true) (hx : evl (real σ) x = v := by rfl) :
    WL P n ds ops Q (⟨some d, .makeInterface t x, ty, pos, af, none⟩ :: rest) (real σ) w := by
  refine wl h (Y.val ?_)
  simp only [execOp, hx]
  rw [Sem.run_bind, run_makeInterface (P := P) (w := w) t v hc]
  rfl
/-- the text's own panic -/
theorem wlpan {t : TypeId} {x : Operand} {od : Option Nat} (h : Q (.panic [{ v := .iface t v, recovered := false }]) ds (real σ) w) (hx : evl (real σ) x = .iface t v := by rfl) :
    WL P n ds ops Q (⟨od, .panic x, ty, pos, af, none⟩ :: rest) (real σ) w := by
  refine wlpanic (v := .iface t v) (w' := w) rfl ?_ h
  simp only [execOp, hx]
  rfl
end
/-- the entry of a function that may panic, and defers nothing -/
theorem enterP {P : Program} {n : Nat} {fn : Func} {R : Value → World → Prop} {S : List PanicEntry → World → Prop} {w : World} {f : FuncId} {c : Code} {l : List Value} (hf : P.funcs[f]? = some fn) (hb : fn.body = some c) (hn : fn.ntmps = n) (hin : codeIn n false c = true) (hl : Nat.ble l.length n = true)
    (h : WC P n ⟨[], none⟩ c (fpostE P n fn fun e w' => (∃ v, e = .returned v ∧ R v w') ∨ ∃ ch, e = .panicked ch ∧ S ch w') (real (entG l 0)) w) : CallsP P f l.toArray w R S := enterE hf hb hn hin hl h
section
variable {P : Program} {n : Nat} {fn : Func} {R : Value → World → Prop} {S : List PanicEntry → World → Prop} {w : World} {σ : Env} {ds : Ctx}
theorem fpP {ex : Exit} {c : Ctx} (hex : ex = .ret ∨ ex = .normal) (h : fpost P n fn R ex c σ w) (hd : c.ds = []) : fpostE P n fn (fun e w' => (∃ v, e = .returned v ∧ R v w') ∨ ∃ ch, e = .panicked ch ∧ S ch w') ex c σ w := by
  obtain ⟨dd, ro⟩ := c
  dsimp only at hd
  subst hd
  rcases hex with rfl | rfl
  · obtain ⟨v, hv, hR⟩ := h; exact ⟨v, hv, .inl hR⟩
  · obtain ⟨v, hv, hR⟩ := h; exact ⟨v, hv, .inl hR⟩
theorem fpPan {c : Ctx} {ch : List PanicEntry} (h : S ch w) (hd : c.ds = []) : fpostE P n fn (fun e w' => (∃ v, e = .returned v ∧ R v w') ∨ ∃ ch, e = .panicked ch ∧ S ch w') (.panic ch) c σ w := by
  obtain ⟨dd, ro⟩ := c
  dsimp only at hd
  subst hd
  exact .inr ⟨ch, rfl, h⟩
end
theorem wcutr {P : Program} {n : Nat} {ds : Ctx} {K : Ctx → Env → World → Prop} {Q : Exit → Ctx → Env → World → Prop} {σ : Env} {w : World} {a : Code} {X : Type} (sl : X → List (Nat × Value)) (I : X → World → Prop)
    (ha : WC P n ds a (thl ds (fun σ w => ∃ x, Has σ (sl x) ∧ I x w) Q) σ w) (hb : ∀ x w (ρ : GE), I x w → K ds (real (updGL ρ (sl x))) w) : WC P n ds a (thn K Q) σ w := by
  refine WC_mono ha ?_
  intro e c' σ' w' h
  unfold thl at h
  unfold thn
  cases e <;> try exact h
  obtain ⟨rfl, x, h1, h2⟩ := h
  have := hb x w' (lif σ') h2
  rw [← real_updL, updL_has h1] at this
  exact this
section
variable {P : Program} {n : Nat} {ds : Ctx} {ops : Array Oper} {Q : Exit → Ctx → Env → World → Prop} {rest : List Oper} {σ : GE} {w : World} {ty : TypeId} {pos : String} {af : Array Edge}
/-- a statement 'defer' of a function value -/
theorem wldefer {f : FuncId} {cap : List Value} {x : Operand} (h : WL P n ⟨⟨.fn (.func f) ⟨cap⟩, #[]⟩ :: ds.ds, ds.ro⟩ ops Q rest (real σ) w) (hx : evl (real σ) x = .func (.func f) #[] ⟨cap⟩ := by rfl) :
    WL P n ds ops Q (⟨none, .defer ⟨.value x, #[], #[]⟩, ty, pos, af, none⟩ :: rest) (real σ) w := by
  refine WL_defer (o := ⟨none, .defer ⟨.value x, #[], #[]⟩, ty, pos, af, none⟩) (w' := w) rfl ?_ h
  simp only [execOp, resolve, hx, Deferred.ofValue]
  simp
/-- at a function's end, a deferred function value -/
theorem leave_fv {fn : Func} {tmps : Array Value} {R : Ending → World → Prop} {u : FrameMode} {dl : List Deferred} {f : FuncId} [hf : Fnc P f] {cap : List Value} (hu : u ≠ .run)
    (h : CallsDIn Fence.wide 0 P f cap.toArray u w fun
      | .returned _, u', w' => LeavesInM Fence.wide 0 P fn tmps R dl (settle u') w'
      | .panicked chain, u', w' => LeavesInM Fence.wide 0 P fn tmps R dl (raised u' chain) w'
      | .outgrown, _, w' => R .outgrown w') : LeavesInM Fence.wide 0 P fn tmps R (⟨.fn (.func f) ⟨cap⟩, #[]⟩ :: dl) u w := by
  refine leave_fn (fv := .func f) (cap := ⟨cap⟩) (args := cap.toArray) hu rfl ?_ h
  have := run_callFunc (P := P) (f := f) cap.toArray w
  simpa [invoke] using this
theorem fp_panic {fn : Func} {R : Value → World → Prop} {ch : List PanicEntry} {σ : Env} (h : LeavesInM Fence.wide 0 P fn (act n ds.ds σ).tmps (fun e w' => ∃ v, e = .returned v ∧ R v w') ds.ds (.panicking ch) w) : fpost P n fn R (.panic ch) ds σ w := h
theorem fp_leave {fn : Func} {R : Value → World → Prop} {ex : Exit} {σ : Env} (hex : ex = .ret ∨ ex = .normal) (h : LeavesInM Fence.wide 0 P fn (act n ds.ds σ).tmps (fun e w' => ∃ v, e = .returned v ∧ R v w') ds.ds .returning w) : fpost P n fn R ex ds σ w := by
  rcases hex with rfl | rfl <;> exact h
/-- two results that lie in cells, a struct and a value -/
theorem leave_two {fn : Func} {R : Value → World → Prop} {dl : List Deferred} {σ : Env} {t1 t2 : Nat} {y1 y2 : TypeId} {b1 b2 : Nat} {l : List Value} {v zv : Value} {bytes : Nat} (hr : fn.results = #[.cell t1 y1, .cell t2 y2])
    (ht : (Nat.blt t1 n && Nat.blt t2 n) = true) (hp : σ t1 = .pointer (pb b1) ∧ σ t2 = .pointer (pb b2)) (o1 : Own w b1 l) (o2 : Own w b2 [v])
    [h1 : Agg P y1 true] [hi : Inf P y1 zv l.length bytes] [h2 : Agg P y2 false] (h : R (.tuple #[.agg l.toArray, v]) w) :
    LeavesInM Fence.wide 0 P fn (act n dl σ).tmps (fun e w' => ∃ v, e = .returned v ∧ R v w') [] .returning w := by
  simp only [Bool.and_eq_true] at ht
  obtain ⟨ht1, ht2⟩ := ht
  obtain ⟨p1, p2⟩ := hp
  obtain ⟨T1, o1⟩ := o1
  obtain ⟨T2, o2⟩ := o2
  have g : ∀ {t b : Nat}, Nat.blt t n = true → σ t = .pointer (pb b) → (act n dl σ).tmps[t]?.getD undef = .pointer (pb b) := fun {t b} ht hp => by
    have : (act n dl σ).tmps.getD t undef = .pointer (pb b) := by rw [act_getD ht]; exact hp
    simpa using this
  have c2 : w.cell? ⟨b2, 0, none⟩ = some v := by rw [cell_of_row w b2 0 _ _ _ o2]; rfl
  obtain ⟨dd, hd1, hd2⟩ := h1.ok
  obtain ⟨i, hi1, hi2, hi3, hi4⟩ := inf_size (P := P) (t := y1)
  have c1 := run_loadVar_row (P := P) w b1 T1 y1 l.toArray (0, 0) dd o1 hd1 (by revert hd2; cases dd <;> exact id) (by rw [hi1]; simp [hi3])
  refine ⟨.tuple #[.agg l.toArray, v], ?_, _, rfl, h⟩
  have c3 : (loadVar y2 ⟨b2, 0, none⟩).run P w = .ok v w := by
    simp [loadVar, run_isAgg (P := P) (t := y2), c2]
  simp [results, hr, g ht1 p1, g ht2 p2, asAddr, pb, c1, c3]
end
end Go.Sv

/-
  Package token, reading: take, text.
-/
set_option linter.unusedSimpArgs false
set_option linter.unusedVariables false
set_option linter.unnecessarySimpa false
namespace Go.Proofs.YthgbpgjpnaanlaaDoor
open Go Go.Sv Go.RowKit

theorem cutPrefix_ok (s p : List UInt8) (w : World) : PureC Tryd.prog 151 #[str s, str p] w (.tuple #[str (if p.isPrefixOf s = true then s.drop p.length else s), .bool (p.isPrefixOf s)]) := by
  refine Calls.mono (Tryd.strings_CutPrefix ⟨s.toArray⟩ ⟨p.toArray⟩ w) ?_
  rintro e w' ⟨rfl, rfl⟩
  exact ⟨_, rfl, rfl, Frm.refl _⟩
theorem hasPrefix7_ok (s p : List UInt8) (w : World) : PureC Tryd.prog 154 #[str s, str p] w (.bool (p.isPrefixOf s)) := by
  refine Calls.mono (Tryd.strings_HasPrefix ⟨s.toArray⟩ ⟨p.toArray⟩ w) ?_
  rintro e w' ⟨rfl, rfl⟩
  exact ⟨_, rfl, rfl, Frm.refl _⟩
def stopV : Value := .iface 192 (.agg #[])
theorem stop_conc : Tryd.prog.concrete 192 = true := by kernel_rfl
def stopE : List PanicEntry := [{ v := stopV, recovered := false }]

set_option maxHeartbeats 1000000 in
theorem take_ok (b : Nat) (s p : List UInt8) (hb : s.length ≤ 16777216) (w0 w : World) (cs : List Plot) (hS : Sep w0 w (pOwn b [str s] :: cs)) :
    CallsP Tryd.prog 152 #[ptrAt (pb b) 0, str p] w (fun _ w' => p.isPrefixOf s = true ∧ Sep w0 w' (pOwn b [str (s.drop p.length)] :: cs))
      (fun ch w' => p.isPrefixOf s = false ∧ ch = stopE ∧ Sep w0 w' (pOwn b [str s] :: cs)) := by
  have hcp := fun w => cutPrefix_ok s p w
  refine enterP (l := [ptrAt (pb b) 0, str p]) Tryd.func152 rfl Tryd.ntmps152 (by kernel_rfl) rfl ?_
  refine sgo ?_
  refine wlpure (hcp _) fun w1 hf1 => ?_
  replace hS := hS.grow hf1
  refine sgo ?_
  cases hp : p.isPrefixOf s with
  | false =>
    simp only [hp, Bool.false_eq_true, if_false]
    refine sgo ?_
    refine wlbuild ?_
    refine wlmki ?_ stop_conc
    refine wlpan ?_
    refine thn_panic ?_
    exact fpPan ⟨trivial, rfl, hS⟩ rfl
  | true =>
    simp only [hp, if_true]
    refine sgo ?_
    refine sst_str hS 0 fun w2 hS => ?_
    refine sgo ?_
    refine fpP (c := ⟨[], none⟩) (.inr rfl) ?_ rfl
    (first | refine fp1 (.inl rfl) rfl rfl ?_ | refine fp2 (.inl rfl) rfl rfl rfl ?_ | refine fp3 (.inl rfl) rfl rfl rfl rfl ?_ | refine fp0 (.inr rfl) rfl ?_ | refine fp0 (.inl rfl) rfl ?_ | refine fp1 (.inr rfl) rfl rfl ?_)
    exact ⟨trivial, hS⟩
/-! ## text -/
theorem fresh_at {M M' : List Nat} {w w' : World} {B : Nat} (h : Lm M w M' w') (hM : ∀ x ∈ M, B ≤ x) (hB : B ≤ w.heap.size) : ∀ x ∈ M', B ≤ x := fun x hx => by
  rcases Nat.lt_or_ge x w.heap.size with h1 | h1
  · exact hM x (h.2 x hx h1)
  · omega
theorem textR_yes {s : List UInt8} (h : ([34] : List UInt8).isPrefixOf s = true) : qtxR s = unqR (s.drop 1) [] := by
  cases s with
  | nil => cases h
  | cons c l =>
    have hc : c.toNat = 34 := by
      have : (34 == c && List.isPrefixOf [] l) = true := h
      simp only [Bool.and_eq_true, beq_iff_eq] at this
      rw [← this.1]; rfl
    rw [qtxR, if_pos hc]
    rfl
theorem textR_no {s : List UInt8} (h : ([34] : List UInt8).isPrefixOf s = false) : qtxR s = none := by
  cases s with
  | nil => rfl
  | cons c l =>
    rw [qtxR, if_neg]
    intro hc
    have : c = 34 := UInt8.toNat_inj.1 hc
    subst this
    have h' : ((34 : UInt8) == 34 && List.isPrefixOf [] l) = false := h
    simp at h'
set_option maxHeartbeats 4000000 in
theorem text_ok (b : Nat) (s : List UInt8) (hb : s.length ≤ 16777216) (w0 w : World) (cs : List Plot) (hS : Sep w0 w (pOwn b [str s] :: cs)) :
    CallsP Tryd.prog 153 #[ptrAt (pb b) 0] w (fun v w' => ∃ t r, qtxR s = some (t, r) ∧ v = str t ∧ Sep w0 w' (pOwn b [str r] :: cs))
      (fun ch w' => qtxR s = none ∧ ch = stopE ∧ ∃ s', Sep w0 w' (pOwn b [str s'] :: cs)) := by
  have htk := fun w hS => take_ok b s [34] hb w0 w cs hS
  refine enterP (l := [ptrAt (pb b) 0]) Tryd.func153 rfl Tryd.ntmps153 (by kernel_rfl) rfl ?_
  refine sgo ?_
  refine wlcallP (htk _ hS) ?_ ?_
  rotate_left
  · rintro ch w' ⟨hp, rfl, hS⟩
    repeat (first | refine thn_panic ?_ | refine thl_panic ?_ | refine blk_panic ?_ | refine ngt_panic ?_)
    exact fpPan ⟨textR_no hp, rfl, s, hS⟩ rfl
  clear hS
  rintro _ w1 ⟨hp, hS⟩
  rw [textR_yes hp]
  have hl1 : (s.drop ([34] : List UInt8).length).length ≤ 16777216 := by rw [List.length_drop]; omega
  have hl2 : s.drop ([34] : List UInt8).length = s.drop 1 := rfl
  rw [hl2] at hS hl1
  generalize s.drop 1 = l at *
  have hlow : ∀ c ∈ (pOwn b [str l] :: cs), ∀ x ∈ c.foot, x < w1.heap.size := fun c hc => hS.lt hc
  have hz := hS.frm.size
  generalize hB : w1.heap.size = B at *
  clear hp hl2
  refine sgo ?_
  refine wlallocT fun b2 w2 hb2 ha hf => ?_
  replace hS : Sep w0 w2 (pBld TB TY b2 none [] :: pOwn b [str l] :: cs) := hS.push hf (Bld.new ha) (by intro x hx; simp [pBld, rb] at hx; omega)
  refine sgo ?_
  refine wcloop (X := Nat × Option Addr × List UInt8) (fun x => [(0, ptrAt (pb b) 0), (2, str []), (3, ptrAt (pb b2) 0), (4, int x.1)])
    (fun x wr => x.1 ≤ l.length ∧ unqR (l.drop x.1) x.2.2 = unqR l [] ∧ x.2.2.length ≤ x.1 ∧ Sep w0 wr (pBld TB TY b2 x.2.1 x.2.2 :: pOwn b [str l] :: cs) ∧ ∀ k ∈ b2 :: rb x.2.1, B ≤ k) (fun x => l.length - x.1) (0, none, []) ⟨rfl, rfl, rfl, rfl, trivial⟩
    ⟨Nat.zero_le _, rfl, Nat.le_refl _, hS, by intro k hk; simp [rb] at hk; omega⟩ ?_
  clear hS ha hf
  rintro ⟨i, q, acc⟩ wr ρ ⟨hil, hu, hal, hS, hq⟩
  dsimp only at hil hu hal hS hq ⊢
  have hBw : B ≤ wr.heap.size := by have := (hS.bld 0 rfl).lt b2 List.mem_cons_self; omega
  refine sgo ?_
  (show WC _ _ _ _ _ _ _; first | refine WC_dec rfl (fun hc => ?_) (fun hc => ?_) | refine WC_cond rfl (fun hc => ?_) (fun hc => ?_))
  · have hlt : i < l.length := by omega
    clear hc
    obtain ⟨c, hx⟩ : ∃ c, l[i]? = some c := ⟨_, List.getElem?_eq_getElem hlt⟩
    refine sgo ?_
    have hg : l[i]?.getD 0 = c := by rw [hx]; rfl
    simp only [hg]
    clear hg
    (show WC _ _ _ _ _ _ _; first | refine WC_dec rfl (fun hc => ?_) (fun hc => ?_) | refine WC_cond rfl (fun hc => ?_) (fun hc => ?_))
    · have hc34 : c.toNat = 34 := by omega
      clear hc
      rw [unq_mark hx hc34] at hu
      refine sgo ?_
      refine sst_str hS 1 fun w3 hS => ?_
      replace hS : Sep w0 w3 (pBld TB TY b2 q acc :: pOwn b [str (l.drop ((i : Int) + 1).toNat)] :: cs) := hS
      rw [show ((i : Int) + 1).toNat = i + 1 from by omega] at hS
      refine sgo ?_
      refine wlcall (string_ok B b2 q acc _ (hS.bld 0 rfl) hq (by have := (hS.bld 0 rfl).lt b2 List.mem_cons_self; omega)) ?_
      rintro _ w4 ⟨rfl, hbl⟩
      replace hS := hS.tail.below hz (fun c hc => by
        rcases List.mem_cons.1 hc with rfl | hc
        · exact hlow (pOwn b [str l]) List.mem_cons_self
        · exact hlow c (List.mem_cons_of_mem _ hc)) hbl
      refine sgo ?_
      refine fpP (c := ⟨[], none⟩) (.inl rfl) ?_ rfl
      (first | refine fp1 (.inl rfl) rfl rfl ?_ | refine fp2 (.inl rfl) rfl rfl rfl ?_ | refine fp3 (.inl rfl) rfl rfl rfl rfl ?_ | refine fp0 (.inr rfl) rfl ?_ | refine fp0 (.inl rfl) rfl ?_ | refine fp1 (.inr rfl) rfl rfl ?_)
      exact ⟨acc, l.drop (i + 1), hu.symm, rfl, hS⟩
    have h34 : c.toNat ≠ 34 := by omega
    clear hc
    refine sgo ?_
    (show WC _ _ _ _ _ _ _; first | refine WC_dec rfl (fun hc => ?_) (fun hc => ?_) | refine WC_cond rfl (fun hc => ?_) (fun hc => ?_))
    · have hc9 : c.toNat = 9 := by omega
      clear hc
      rw [unq_tab hx hc9] at hu
      refine sgo ?_
      refine wlbuild ?_
      refine wlmki ?_ stop_conc
      refine wlpan ?_
      repeat (first | refine thn_panic ?_ | refine thl_panic ?_ | refine blk_panic ?_ | refine ngt_panic ?_)
      exact fpPan ⟨hu.symm, rfl, l, hS.tail⟩ rfl
    have h9 : c.toNat ≠ 9 := by omega
    clear hc
    refine sgo ?_
    (show WC _ _ _ _ _ _ _; first | refine WC_dec rfl (fun hc => ?_) (fun hc => ?_) | refine WC_cond rfl (fun hc => ?_) (fun hc => ?_))
    · have hc92 : c.toNat = 92 := by omega
      clear hc
      refine sgo ?_
      (show WC _ _ _ _ _ _ _; first | refine WC_dec rfl (fun hc => ?_) (fun hc => ?_) | refine WC_cond rfl (fun hc => ?_) (fun hc => ?_))
      · have hio : l.length ≤ i + 1 := by omega
        clear hc
        rw [unq_esc_out hx hc92 hio] at hu
        refine sgo ?_
        refine wlbuild ?_
        refine wlmki ?_ stop_conc
        refine wlpan ?_
        repeat (first | refine thn_panic ?_ | refine thl_panic ?_ | refine blk_panic ?_ | refine ngt_panic ?_)
        exact fpPan ⟨hu.symm, rfl, l, hS.tail⟩ rfl
      have hlt2 : i + 1 < l.length := by omega
      clear hc
      obtain ⟨d, hd⟩ : ∃ d, l[i + 1]? = some d := ⟨_, List.getElem?_eq_getElem hlt2⟩
      rw [unq_esc_at hx hc92 hd] at hu
      refine sgo ?_
      have hg : l[i + 1]?.getD 0 = d := by rw [hd]; rfl
      simp only [hg]
      clear hg
      (show WC _ _ _ _ _ _ _; first | refine WC_dec rfl (fun hc => ?_) (fun hc => ?_) | refine WC_cond rfl (fun hc => ?_) (fun hc => ?_))
      · have h110 : d.toNat = 110 := by omega
        clear hc
        rw [if_pos h110] at hu
        refine sgo ?_
        refine wlcall (writeByte_ok b2 q acc 10 _ (hS.bld 0 rfl) (by omega)) ?_
        rintro _ w3 ⟨rfl, q', hB', hl'⟩
        have hq' := fresh_at hl' hq hBw
        replace hS := hS.toBld 0 rfl hl' hB'
        refine sgo ?_
        exact ⟨(i + 2, q', acc ++ [10]), ⟨rfl, rfl, rfl, rfl, trivial⟩, ⟨by omega, hu, by simp; omega, hS, hq'⟩, by dsimp only; omega⟩
      have h110 : ¬ d.toNat = 110 := by omega
      clear hc
      rw [if_neg h110] at hu
      refine sgo ?_
      (show WC _ _ _ _ _ _ _; first | refine WC_dec rfl (fun hc => ?_) (fun hc => ?_) | refine WC_cond rfl (fun hc => ?_) (fun hc => ?_))
      · have h116 : d.toNat = 116 := by omega
        clear hc
        rw [if_pos h116] at hu
        refine sgo ?_
        refine wlcall (writeByte_ok b2 q acc 9 _ (hS.bld 0 rfl) (by omega)) ?_
        rintro _ w3 ⟨rfl, q', hB', hl'⟩
        have hq' := fresh_at hl' hq hBw
        replace hS := hS.toBld 0 rfl hl' hB'
        refine sgo ?_
        exact ⟨(i + 2, q', acc ++ [9]), ⟨rfl, rfl, rfl, rfl, trivial⟩, ⟨by omega, hu, by simp; omega, hS, hq'⟩, by dsimp only; omega⟩
      have h116 : ¬ d.toNat = 116 := by omega
      clear hc
      rw [if_neg h116] at hu
      refine sgo ?_
      (show WC _ _ _ _ _ _ _; first | refine WC_dec rfl (fun hc => ?_) (fun hc => ?_) | refine WC_cond rfl (fun hc => ?_) (fun hc => ?_))
      · have h34d : d.toNat = 34 := by omega
        clear hc
        rw [if_pos (.inl h34d)] at hu
        refine sgo ?_
        refine wcyes ?_ (ht := by simp [h34d])
        refine sgo ?_
        have hg : l[i + 1]?.getD 0 = d := by rw [hd]; rfl
        try simp only [hg]
        try clear hg
        refine wlcall (writeByte_ok b2 q acc d _ (hS.bld 0 rfl) (by omega)) ?_
        rintro _ w3 ⟨rfl, q', hB', hl'⟩
        have hq' := fresh_at hl' hq hBw
        replace hS := hS.toBld 0 rfl hl' hB'
        refine sgo ?_
        exact ⟨(i + 2, q', acc ++ [d]), ⟨rfl, rfl, rfl, rfl, trivial⟩, ⟨by omega, hu, by simp; omega, hS, hq'⟩, by dsimp only; omega⟩
      have h34d : ¬ d.toNat = 34 := by omega
      clear hc
      refine sgo ?_
      (show WC _ _ _ _ _ _ _; first | refine WC_dec rfl (fun hc => ?_) (fun hc => ?_) | refine WC_cond rfl (fun hc => ?_) (fun hc => ?_))
      · have h92d : d.toNat = 92 := by omega
        clear hc
        rw [if_pos (.inr h92d)] at hu
        refine sgo ?_
        have hg : l[i + 1]?.getD 0 = d := by rw [hd]; rfl
        try simp only [hg]
        try clear hg
        refine wlcall (writeByte_ok b2 q acc d _ (hS.bld 0 rfl) (by omega)) ?_
        rintro _ w3 ⟨rfl, q', hB', hl'⟩
        have hq' := fresh_at hl' hq hBw
        replace hS := hS.toBld 0 rfl hl' hB'
        refine sgo ?_
        exact ⟨(i + 2, q', acc ++ [d]), ⟨rfl, rfl, rfl, rfl, trivial⟩, ⟨by omega, hu, by simp; omega, hS, hq'⟩, by dsimp only; omega⟩
      have h92d : ¬ d.toNat = 92 := by omega
      clear hc
      rw [if_neg (by rintro (h | h); exact h34d h; exact h92d h)] at hu
      refine sgo ?_
      refine wlbuild ?_
      refine wlmki ?_ stop_conc
      refine wlpan ?_
      repeat (first | refine thn_panic ?_ | refine thl_panic ?_ | refine blk_panic ?_ | refine ngt_panic ?_)
      exact fpPan ⟨hu.symm, rfl, l, hS.tail⟩ rfl
    have h92 : c.toNat ≠ 92 := by omega
    clear hc
    rw [unq_one hx h34 h9 h92] at hu
    refine sgo ?_
    refine wlcall (writeByte_ok b2 q acc c _ (hS.bld 0 rfl) (by omega)) ?_
    rintro _ w3 ⟨rfl, q', hB', hl'⟩
    have hq' := fresh_at hl' hq hBw
    replace hS := hS.toBld 0 rfl hl' hB'
    refine sgo ?_
    exact ⟨(i + 1, q', acc ++ [c]), ⟨rfl, rfl, rfl, rfl, trivial⟩, ⟨by omega, hu, by simp; omega, hS, hq'⟩, by dsimp only; omega⟩
  · have hio : l.length ≤ i := by omega
    rw [unq_out hio] at hu
    refine sgo ?_
    refine wlbuild ?_
    refine wlmki ?_ stop_conc
    refine wlpan ?_
    repeat (first | refine thn_panic ?_ | refine thl_panic ?_ | refine blk_panic ?_ | refine ngt_panic ?_)
    exact fpPan ⟨hu.symm, rfl, l, hS.tail⟩ rfl
end Go.Proofs.YthgbpgjpnaanlaaDoor

/-
  A scope in which the run jumps back to its label, once.
-/
set_option linter.unusedSimpArgs false
set_option linter.unusedVariables false
set_option linter.unnecessarySimpa false
namespace Go.Sv
open Go Go.RowKit
/-- what a jump leaves -/
def jmpq (l : Nat) (c : Ctx) (K : Env → World → Prop) (Q : Exit → Ctx → Env → World → Prop) : Exit → Ctx → Env → World → Prop
  | .goto l', c', σ, w => l' = l ∧ c' = c ∧ K σ w
  | e, c', σ, w => Q e c' σ w
section
variable {P : Program} {n l : Nat} {ds : Ctx} {Q : Exit → Ctx → Env → World → Prop} {K : Ctx → Env → World → Prop} {L : Env → World → Prop} {σ : Env} {w : World} {c rest : Code}
end
/-- a cut behind a piece of code that stands in a block -/
theorem wcutj {P : Program} {n i : Nat} {ds : Ctx} {K : Ctx → Env → World → Prop} {Q : Exit → Ctx → Env → World → Prop} {σ : Env} {w : World} {a : Code} {X : Type} (sl : X → List (Nat × Value)) (I : X → World → Prop)
    (ha : WC P n ds a (blk i (thl ds (fun σ w => ∃ x, Has σ (sl x) ∧ I x w) Q)) σ w) (hb : ∀ x w (ρ : GE), I x w → K ds (real (updGL ρ (sl x))) w) : WC P n ds a (blk i (thn K Q)) σ w := by
  refine WC_mono ha ?_
  have hn : ∀ c' σ' w', thl ds (fun σ w => ∃ x, Has σ (sl x) ∧ I x w) Q .normal c' σ' w' → thn K Q .normal c' σ' w' := by
    intro c' σ' w' h
    unfold thl at h
    unfold thn
    obtain ⟨rfl, x, h1, h2⟩ := h
    have := hb x w' (lif σ') h2
    rw [← real_updL, updL_has h1] at this
    exact this
  intro e c' σ' w' h
  unfold blk at h ⊢
  cases e with
  | normal => exact hn _ _ _ h
  | exit j =>
    dsimp only at h ⊢
    cases hj : Nat.beq j i with
    | true => rw [hj] at h; exact hn _ _ _ h
    | false => rw [hj] at h; unfold thl at h; unfold thn; exact h
  | _ => unfold thl at h; unfold thn; exact h
theorem Sep.nilRow {w0 w : World} {cs : List Plot} (h : Sep w0 w cs) (size : Nat) : Sep w0 w (pRow size none 0 0 [] :: cs) := h.push (Frm.refl w) (Row.nil w size) (by simp [pRow, rb])
attribute [irreducible] jmpq
end Go.Sv

/-
  Package token, reading: a token.
-/
set_option linter.unusedSimpArgs false
set_option linter.unusedVariables false
set_option linter.unnecessarySimpa false
namespace Go.Proofs.YthgbpgjpnaanlaaDoor
open Go Go.Sv Go.RowKit

theorem readF_step {k : Nat} {x s : List UInt8} (h : wordsL[k]? = some x) : readF k (wordsL.drop k) s = if x.isPrefixOf s = true then tokR k (s.drop x.length) else readF (k + 1) (wordsL.drop (k + 1)) s := by
  obtain ⟨hi, rfl⟩ := List.getElem?_eq_some_iff.1 h
  rw [List.drop_eq_getElem_cons hi, readF]
theorem words_at2 {k : Nat} {x : List UInt8} (h : wordsL[k]? = some x) : (#[str wText, str wStart, str wEnd, str wComment, str wDoctype] : Array Value)[k]? = some (str x) := by
  have hk : k < 5 := (List.getElem?_eq_some_iff.1 h).1
  match k, hk with
  | 0, _ => obtain rfl : wText = x := Option.some.inj h; rfl
  | 1, _ => obtain rfl : wStart = x := Option.some.inj h; rfl
  | 2, _ => obtain rfl : wEnd = x := Option.some.inj h; rfl
  | 3, _ => obtain rfl : wComment = x := Option.some.inj h; rfl
  | 4, _ => obtain rfl : wDoctype = x := Option.some.inj h; rfl
theorem pre_take {p l : List UInt8} : p.isPrefixOf l = true ↔ l.take p.length = p := by
  rw [List.isPrefixOf_iff_prefix]
  constructor
  · rintro ⟨t, rfl⟩; rw [List.take_left]
  · intro h; rw [← h]; exact List.take_prefix _ _
theorem pre_yes {p l : List UInt8} (h : p.isPrefixOf l = true) : l.take p.length = p := pre_take.1 h
theorem pre_no {p l : List UInt8} (h : p.isPrefixOf l = false) : ¬ l.take p.length = p := fun hh => by rw [pre_take.2 hh] at h; cases h
theorem head_suf {k : Nat} {l nm tx r : List UInt8} (h : headT k l = some (nm, tx, r)) : r.length ≤ l.length ∧ nm.length ≤ l.length ∧ tx.length ≤ l.length := by
  unfold headT at h
  split at h
  · injection h with h; injection h with h1 h; injection h with h2 h3
    subst h1 h2 h3
    exact ⟨Nat.le_refl _, Nat.zero_le _, Nat.zero_le _⟩
  split at h
  · cases ht : qtxR (l.drop 1) with
    | none => rw [ht] at h; cases h
    | some x =>
      obtain ⟨a, b⟩ := x
      rw [ht] at h
      obtain ⟨_, h2, h3⟩ := textR_suf ht
      rw [List.length_drop] at h2 h3
      dsimp only at h
      split at h
      · injection h with h; injection h with h4 h; injection h with h5 h6
        subst h4 h5 h6
        exact ⟨by omega, by omega, Nat.zero_le _⟩
      · injection h with h; injection h with h4 h; injection h with h5 h6
        subst h4 h5 h6
        exact ⟨by omega, Nat.zero_le _, by omega⟩
  · cases h
theorem tok_end {k : Nat} {l nm tx r0 r : List UInt8} {es : List At} (h : headT k l = some (nm, tx, r0)) (ha : atsR r0 [] = some (es, r)) :
    tokR k l = if (r = [] ∨ r = [32, 47]) ∧ mayR ⟨k, nm, tx, es, decide (r = [32, 47]), 0, 0, 0⟩ = true then some ⟨k, nm, tx, es, decide (r = [32, 47]), 0, 0, 0⟩ else none := by
  unfold tokR; rw [h]; dsimp only; rw [ha]
theorem tok_bad {k : Nat} {l nm tx r0 : List UInt8} (h : headT k l = some (nm, tx, r0)) (ha : atsR r0 [] = none) : tokR k l = none := by
  unfold tokR; rw [h]; dsimp only; rw [ha]
theorem at1_text {r : List UInt8} (h : qtxR (r.drop 1) = none) : at1R r = none := by unfold at1R; rw [h]
theorem at1_eq {r n r1 : List UInt8} (h : qtxR (r.drop 1) = some (n, r1)) (h2 : ¬ r1.take 1 = [61]) : at1R r = none := by unfold at1R; rw [h]; dsimp only; rw [if_neg h2]
theorem at1_val {r n r1 : List UInt8} (h : qtxR (r.drop 1) = some (n, r1)) (h2 : r1.take 1 = [61]) (h3 : qtxR (r1.drop 1) = none) : at1R r = none := by unfold at1R; rw [h]; dsimp only; rw [if_pos h2, h3]
theorem at1_all {r n r1 v r2 : List UInt8} (h : qtxR (r.drop 1) = some (n, r1)) (h2 : r1.take 1 = [61]) (h3 : qtxR (r1.drop 1) = some (v, r2)) : at1R r = some (⟨n, v⟩, r2) := by unfold at1R; rw [h]; dsimp only; rw [if_pos h2, h3]
/-- what is read of a line is small -/
def lineS (s : List UInt8) : Prop := ∀ (k : Nat) (x nm tx r0 : List UInt8) (es : List At) (r : List UInt8), wordsL[k]? = some x → x.isPrefixOf s = true → headT k (s.drop x.length) = some (nm, tx, r0) → atsR r0 [] = some (es, r) →
  nm.length ≤ 1048576 ∧ tx.length ≤ 1048576 ∧ es.length ≤ 1048576 ∧ ∀ a ∈ es, a.small
def zeroV : List Value := [int 0, str [], str [], .slice none 0 0, .bool false, int 0, int 0, int 0]
set_option maxHeartbeats 1000000 in
theorem token_ok (b : Nat) (s : List UInt8) (hb : s.length ≤ 16777216) (HS : lineS s) (w0 w : World) (cs : List Plot) (hS : Sep w0 w (pOwn b [str s] :: cs)) :
    CallsP Tryd.prog 140 #[ptrAt (pb b) 0] w (fun v w' => ∃ t p c, readR s = some t ∧ v = .agg ⟨Tok.cells t p c⟩ ∧ ∃ s', Sep w0 w' (pRow 2 p t.attrs.length c (t.attrs.flatMap At.cells) :: pOwn b [str s'] :: cs))
      (fun ch w' => readR s = none ∧ ch = stopE ∧ ∃ s', Sep w0 w' (pOwn b [str s'] :: cs)) := by
  obtain ⟨R, hR⟩ : ∃ R, R = readR s := ⟨_, rfl⟩
  rw [← hR]
  have hcp := fun p w => cutPrefix_ok s p w
  refine enterP (l := [ptrAt (pb b) 0]) Tryd.func140 rfl Tryd.ntmps140 (by kernel_rfl) rfl ?_
  refine sgo ?_
  refine salloc hS fun bR w1 hS => ?_
  replace hS : Sep w0 w1 (pOwn bR zeroV :: pOwn b [str s] :: cs) := hS
  refine sgo ?_
  refine wlpure (words_ok _) fun w2 hf2 => ?_
  replace hS := hS.grow hf2
  clear hf2
  refine sgo ?_
  refine wcloop (X := Nat) (fun k => [(0, ptrAt (pb b) 0), (2, ptrAt (pb bR) 0), (9, wordsV), (10, int k)])
    (fun k wr => k ≤ 5 ∧ readF k (wordsL.drop k) s = R ∧ Sep w0 wr (pOwn bR zeroV :: pOwn b [str s] :: cs)) (fun k => 5 - k) 0 ⟨rfl, rfl, rfl, rfl, trivial⟩ ⟨by omega, hR.symm, hS⟩ ?_
  clear hS
  rintro k wr ρ ⟨hk5, hrd, hS⟩
  refine sgo ?_
  (show WC _ _ _ _ _ _ _; first | refine WC_dec rfl (fun hc => ?_) (fun hc => ?_) | refine WC_cond rfl (fun hc => ?_) (fun hc => ?_))
  · have hk : k < 5 := by omega
    clear hc
    obtain ⟨x, hx⟩ : ∃ x, wordsL[k]? = some x := ⟨_, List.getElem?_eq_getElem hk⟩
    have hwa := words_at2 hx
    rw [readF_step hx] at hrd
    refine sgo ?_
    refine wlpure (hcp x _) fun w3 hf3 => ?_
    replace hS := hS.grow hf3
    clear hf3 hcp hwa
    cases hp : x.isPrefixOf s with
    | false =>
      rw [hp, if_neg Bool.false_ne_true] at hrd
      simp only [hp, Bool.false_eq_true, if_false]
      refine sgo ?_
      exact ⟨k + 1, ⟨rfl, rfl, rfl, rfl, trivial⟩, ⟨hk, hrd, hS⟩, by omega⟩
    | true =>
      rw [hp, if_pos rfl] at hrd
      simp only [hp, if_true]
      have hb1 : (s.drop x.length).length ≤ 16777216 := by rw [List.length_drop]; omega
      have HSk := fun nm tx r0 es r => HS k x nm tx r0 es r hx hp
      clear HS
      generalize s.drop x.length = l at *
      clear hp hx
      refine sgo ?_
      refine wlbuild ?_
      refine sgo ?_
      refine salloc hS fun bT w4 hS => ?_
      refine sgo ?_
      refine ssta (vs := [int k, str [], str [], .slice none 0 0, .bool false, int 0, int 0, int 0]) hS 0 fun w5 hS => ?_
      refine sgo ?_
      refine sst_str hS 2 fun w6 hS => ?_
      replace hS : Sep w0 w6 (pOwn bT [int k, str [], str [], .slice none 0 0, .bool false, int 0, int 0, int 0] :: pOwn bR zeroV :: pOwn b [str l] :: cs) := hS
      have hS' : Sep w0 w6 (pOwn b [str l] :: pOwn bT [int k, str [], str [], .slice none 0 0, .bool false, int 0, int 0, int 0] :: pOwn bR zeroV :: cs) := hS.front 2 rfl
      replace hS := hS'
      clear hS'
      refine sgo ?_
      refine wcutr (X := Unit) (fun _ => [(0, ptrAt (pb b) 0), (2, ptrAt (pb bR) 0), (7, ptrAt (pb bT) 0), (32, int k), (33, .bool (decide (k = 1 ∨ k = 2)))]) (fun _ w' => w' = w6) ?_ ?_
      · have hk' : k = 0 ∨ k = 1 ∨ k = 2 ∨ k = 3 ∨ k = 4 := by omega
        clear hk hk5 hR hS
        rcases hk' with rfl | rfl | rfl | rfl | rfl <;> (refine sgo ?_; exact ⟨(), ⟨rfl, rfl, rfl, rfl, rfl, trivial⟩, rfl⟩)
      rintro _ w7 ρ1 rfl
      refine wcutj (X := List UInt8 × List UInt8 × List UInt8) (fun _ => [(0, ptrAt (pb b) 0), (2, ptrAt (pb bR) 0), (7, ptrAt (pb bT) 0)])
        (fun x w' => headT k l = some x ∧ Sep w0 w' (pOwn b [str x.2.2] :: pOwn bT [int k, str x.1, str x.2.1, .slice none 0 0, .bool false, int 0, int 0, int 0] :: pOwn bR zeroV :: cs)) ?_ ?_
      · have hk' : k = 0 ∨ k = 1 ∨ k = 2 ∨ k = 3 ∨ k = 4 := by omega
        clear hk hk5 hR HSk
        rcases hk' with rfl | rfl | rfl | rfl | rfl
        · refine sgo ?_
          refine wlcallP (take_ok b l [32] hb1 w0 _ _ hS) ?_ ?_
          rotate_left
          · rintro ch w7 ⟨hp, rfl, hS⟩
            have hrn : R = none := by rw [← hrd]; exact tok_none (head_no (by decide) (pre_no hp))
            repeat (first | refine thn_panic ?_ | refine thl_panic ?_ | refine blk_panic ?_ | refine ngt_panic ?_)
            exact fpPan ⟨hrn, rfl, _, hS.drop 2 rfl |>.drop 1 rfl⟩ rfl
          clear hS
          rintro _ w7 ⟨hp, hS⟩
          have hp1 := pre_yes hp
          clear hp
          refine sgo ?_
          refine wlcallP (text_ok b _ (by rw [List.length_drop]; omega) w0 _ _ hS) ?_ ?_
          rotate_left
          · rintro ch w8 ⟨hp, rfl, s', hS⟩
            have hrn : R = none := by rw [← hrd]; exact tok_none (head_bad (by decide) hp1 hp)
            repeat (first | refine thn_panic ?_ | refine thl_panic ?_ | refine blk_panic ?_ | refine ngt_panic ?_)
            exact fpPan ⟨hrn, rfl, _, hS.drop 2 rfl |>.drop 1 rfl⟩ rfl
          clear hS
          rintro _ w8 ⟨t, r, htr, rfl, hS⟩
          refine sgo ?_
          refine sst_str hS 1 fun w9 hS => ?_
          refine sgo ?_
          exact ⟨([], t, r), ⟨rfl, rfl, rfl, trivial⟩, head_yes (by decide) hp1 htr, hS⟩
        · refine sgo ?_
          refine wlcallP (take_ok b l [32] hb1 w0 _ _ hS) ?_ ?_
          rotate_left
          · rintro ch w7 ⟨hp, rfl, hS⟩
            have hrn : R = none := by rw [← hrd]; exact tok_none (head_no (by decide) (pre_no hp))
            repeat (first | refine thn_panic ?_ | refine thl_panic ?_ | refine blk_panic ?_ | refine ngt_panic ?_)
            exact fpPan ⟨hrn, rfl, _, hS.drop 2 rfl |>.drop 1 rfl⟩ rfl
          clear hS
          rintro _ w7 ⟨hp, hS⟩
          have hp1 := pre_yes hp
          clear hp
          refine sgo ?_
          refine wlcallP (text_ok b _ (by rw [List.length_drop]; omega) w0 _ _ hS) ?_ ?_
          rotate_left
          · rintro ch w8 ⟨hp, rfl, s', hS⟩
            have hrn : R = none := by rw [← hrd]; exact tok_none (head_bad (by decide) hp1 hp)
            repeat (first | refine thn_panic ?_ | refine thl_panic ?_ | refine blk_panic ?_ | refine ngt_panic ?_)
            exact fpPan ⟨hrn, rfl, _, hS.drop 2 rfl |>.drop 1 rfl⟩ rfl
          clear hS
          rintro _ w8 ⟨t, r, htr, rfl, hS⟩
          refine sgo ?_
          refine sst_str hS 1 fun w9 hS => ?_
          refine sgo ?_
          exact ⟨(t, [], r), ⟨rfl, rfl, rfl, trivial⟩, head_yes (by decide) hp1 htr, hS⟩
        · refine sgo ?_
          refine wlcallP (take_ok b l [32] hb1 w0 _ _ hS) ?_ ?_
          rotate_left
          · rintro ch w7 ⟨hp, rfl, hS⟩
            have hrn : R = none := by rw [← hrd]; exact tok_none (head_no (by decide) (pre_no hp))
            repeat (first | refine thn_panic ?_ | refine thl_panic ?_ | refine blk_panic ?_ | refine ngt_panic ?_)
            exact fpPan ⟨hrn, rfl, _, hS.drop 2 rfl |>.drop 1 rfl⟩ rfl
          clear hS
          rintro _ w7 ⟨hp, hS⟩
          have hp1 := pre_yes hp
          clear hp
          refine sgo ?_
          refine wlcallP (text_ok b _ (by rw [List.length_drop]; omega) w0 _ _ hS) ?_ ?_
          rotate_left
          · rintro ch w8 ⟨hp, rfl, s', hS⟩
            have hrn : R = none := by rw [← hrd]; exact tok_none (head_bad (by decide) hp1 hp)
            repeat (first | refine thn_panic ?_ | refine thl_panic ?_ | refine blk_panic ?_ | refine ngt_panic ?_)
            exact fpPan ⟨hrn, rfl, _, hS.drop 2 rfl |>.drop 1 rfl⟩ rfl
          clear hS
          rintro _ w8 ⟨t, r, htr, rfl, hS⟩
          refine sgo ?_
          refine sst_str hS 1 fun w9 hS => ?_
          refine sgo ?_
          exact ⟨(t, [], r), ⟨rfl, rfl, rfl, trivial⟩, head_yes (by decide) hp1 htr, hS⟩
        · refine sgo ?_
          refine wlcallP (take_ok b l [32] hb1 w0 _ _ hS) ?_ ?_
          rotate_left
          · rintro ch w7 ⟨hp, rfl, hS⟩
            have hrn : R = none := by rw [← hrd]; exact tok_none (head_no (by decide) (pre_no hp))
            repeat (first | refine thn_panic ?_ | refine thl_panic ?_ | refine blk_panic ?_ | refine ngt_panic ?_)
            exact fpPan ⟨hrn, rfl, _, hS.drop 2 rfl |>.drop 1 rfl⟩ rfl
          clear hS
          rintro _ w7 ⟨hp, hS⟩
          have hp1 := pre_yes hp
          clear hp
          refine sgo ?_
          refine wlcallP (text_ok b _ (by rw [List.length_drop]; omega) w0 _ _ hS) ?_ ?_
          rotate_left
          · rintro ch w8 ⟨hp, rfl, s', hS⟩
            have hrn : R = none := by rw [← hrd]; exact tok_none (head_bad (by decide) hp1 hp)
            repeat (first | refine thn_panic ?_ | refine thl_panic ?_ | refine blk_panic ?_ | refine ngt_panic ?_)
            exact fpPan ⟨hrn, rfl, _, hS.drop 2 rfl |>.drop 1 rfl⟩ rfl
          clear hS
          rintro _ w8 ⟨t, r, htr, rfl, hS⟩
          refine sgo ?_
          refine sst_str hS 1 fun w9 hS => ?_
          refine sgo ?_
          exact ⟨([], t, r), ⟨rfl, rfl, rfl, trivial⟩, head_yes (by decide) hp1 htr, hS⟩
        · refine sgo ?_
          exact ⟨([], [], l), ⟨rfl, rfl, rfl, trivial⟩, by unfold headT; rw [if_pos rfl], hS⟩
      clear hS
      rintro ⟨nm, tx, r0⟩ w7 ρ2 ⟨hh, hS⟩
      dsimp only at hS
      obtain ⟨hr0, hnm, htx⟩ := head_suf hh
      replace hS : Sep w0 w7 (pOwn b [str r0] :: pRow 2 none 0 0 [] :: pOwn bT [int k, str nm, str tx, .slice none 0 0, .bool false, int 0, int 0, int 0] :: pOwn bR zeroV :: cs) := (hS.nilRow 2).front 1 rfl
      refine sgo ?_
      refine wcloop (X := List At × Option Addr × Nat × List UInt8) (fun _ => [(0, ptrAt (pb b) 0), (2, ptrAt (pb bR) 0), (7, ptrAt (pb bT) 0)])
        (fun x wr => atsR x.2.2.2 x.1 = atsR r0 [] ∧ x.1.length + x.2.2.2.length ≤ l.length ∧
          Sep w0 wr (pOwn b [str x.2.2.2] :: pRow 2 x.2.1 x.1.length x.2.2.1 (x.1.flatMap At.cells) :: pOwn bT [int k, str nm, str tx, .slice x.2.1 x.1.length x.2.2.1, .bool false, int 0, int 0, int 0] :: pOwn bR zeroV :: cs))
        (fun x => x.2.2.2.length) ([], none, 0, r0) ⟨rfl, rfl, rfl, trivial⟩ ⟨rfl, by simpa using hr0, hS⟩ ?_
      clear hS hR
      rintro ⟨acc, q, c, r⟩ w8 ρ3 ⟨hA, hlen, hS⟩
      dsimp only at hA hlen hS ⊢
      refine sgo ?_
      refine wlpure (hasPrefix7_ok r [32, 34] _) fun w9 hf9 => ?_
      replace hS := hS.grow hf9
      clear hf9
      cases hpp : ([32, 34] : List UInt8).isPrefixOf r with
      | true =>
        have hr2 : r.take 2 = [32, 34] := pre_yes hpp
        refine sgo ?_
        refine wlcallP (take_ok b r [32] (by omega) w0 _ _ hS) ?_ ?_
        rotate_left
        · rintro ch w10 ⟨hp, rfl, hS⟩
          exfalso
          refine pre_no hp ?_
          have := congrArg (List.take 1) hr2
          rw [List.take_take] at this
          exact this
        clear hS
        rintro _ w10 ⟨_, hS⟩
        have hd1 : (r.drop ([32] : List UInt8).length).length ≤ 16777216 := by rw [List.length_drop]; omega
        refine sgo ?_
        refine wlcallP (text_ok b _ hd1 w0 _ _ hS) ?_ ?_
        rotate_left
        · rintro ch w10 ⟨hp, rfl, s', hS⟩
          have hrn : R = none := by rw [← hrd]; exact tok_bad hh (by rw [← hA]; exact atsR_bad hr2 (at1_text hp))
          repeat (first | refine thn_panic ?_ | refine thl_panic ?_ | refine blk_panic ?_ | refine ngt_panic ?_)
          exact fpPan ⟨hrn, rfl, _, ((hS.drop 3).drop 2).drop 1⟩ rfl
        clear hS
        rintro _ w11 ⟨n, r1, htn, rfl, hS⟩
        have hl1 := (textR_suf htn).2.1
        have hl1' := (textR_suf htn).2.2
        change qtxR (r.drop 1) = some (n, r1) at htn
        rw [List.length_drop] at hl1 hl1'
        have hr1l : 1 ≤ r.length := by
          rcases Nat.eq_zero_or_pos r.length with h0 | h0
          · rw [List.eq_nil_of_length_eq_zero h0] at hr2; cases hr2
          · exact h0
        clear hd1
        refine sgo ?_
        refine wlbuild ?_
        refine sgo ?_
        refine salloc hS fun bA w12 hS => ?_
        refine sgo ?_
        refine ssta (vs := [str n, str []]) hS 0 fun w13 hS => ?_
        replace hS := hS.front 1 rfl
        refine sgo ?_
        refine wlcallP (take_ok b r1 [61] (by simp only [List.length_singleton] at hl1 hl1'; omega) w0 _ _ hS) ?_ ?_
        rotate_left
        · rintro ch w10 ⟨hp, rfl, hS⟩
          have hrn : R = none := by rw [← hrd]; exact tok_bad hh (by rw [← hA]; exact atsR_bad hr2 (at1_eq htn (pre_no hp)))
          repeat (first | refine thn_panic ?_ | refine thl_panic ?_ | refine blk_panic ?_ | refine ngt_panic ?_)
          exact fpPan ⟨hrn, rfl, _, (((hS.drop 4).drop 3).drop 2).drop 1⟩ rfl
        clear hS
        rintro _ w14 ⟨hp, hS⟩
        have hr3 : r1.take 1 = [61] := pre_yes hp
        clear hp
        have hd1 : (r1.drop ([61] : List UInt8).length).length ≤ 16777216 := by simp only [List.length_singleton, List.length_drop] at *; omega
        refine sgo ?_
        refine wlcallP (text_ok b _ hd1 w0 _ _ hS) ?_ ?_
        rotate_left
        · rintro ch w10 ⟨hp, rfl, s', hS⟩
          have hrn : R = none := by rw [← hrd]; exact tok_bad hh (by rw [← hA]; exact atsR_bad hr2 (at1_val htn hr3 hp))
          repeat (first | refine thn_panic ?_ | refine thl_panic ?_ | refine blk_panic ?_ | refine ngt_panic ?_)
          exact fpPan ⟨hrn, rfl, _, (((hS.drop 4).drop 3).drop 2).drop 1⟩ rfl
        clear hS
        rintro _ w15 ⟨v, r2, htv, rfl, hS⟩
        have hl2 := (textR_suf htv).2.1
        have hl2' := (textR_suf htv).2.2
        change qtxR (r1.drop 1) = some (v, r2) at htv
        rw [List.length_drop] at hl2 hl2'
        clear hd1
        have hA2 := at1_all htn hr3 htv
        rw [atsR_yes hr2 hA2] at hA
        simp only [List.length_singleton] at hl1 hl1' hl2 hl2'
        clear htn htv hr3 hA2 hr2 hpp
        refine sgo ?_
        refine sst_str hS 1 fun w16 hS => ?_
        replace hS : Sep w0 w16 (pOwn b [str r2] :: pOwn bA [str n, str v] :: pRow 2 q acc.length c (acc.flatMap At.cells) :: pOwn bT [int k, str nm, str tx, .slice q acc.length c, .bool false, int 0, int 0, int 0] :: pOwn bR zeroV :: cs) := hS
        refine sgo ?_
        refine sb1a (vs := [str n, str v]) hS fun b3 w17 hS => ?_
        refine sgo ?_
        refine sapp hS 3 (hS.own 0 rfl).sg fun q' c' w18 hS => ?_
        refine sgo ?_
        refine sst_slice hS 4 fun w19 hS => ?_
        have e1 : (acc ++ [(⟨n, v⟩ : At)]).flatMap At.cells = acc.flatMap At.cells ++ [str n, str v] := by rw [List.flatMap_append]; rfl
        have e2 : (acc ++ [(⟨n, v⟩ : At)]).length = acc.length + 1 := by rw [List.length_append]; rfl
        have hS' : Sep w0 w19 (pOwn b [str r2] :: pRow 2 q' (acc.length + 1) c' (acc.flatMap At.cells ++ [str n, str v]) :: pOwn bT [int k, str nm, str tx, .slice q' (acc.length + 1) c', .bool false, int 0, int 0, int 0] :: pOwn bR zeroV :: cs) := (hS.drop 2).drop 0
        rw [← e1, ← e2] at hS'
        clear hS
        refine sgo ?_
        exact ⟨(acc ++ [⟨n, v⟩], q', c', r2), ⟨rfl, rfl, rfl, trivial⟩, ⟨hA, by rw [e2]; dsimp only; omega, hS'⟩, by dsimp only; omega⟩
      | false =>
        have hr2 : ¬ r.take 2 = [32, 34] := pre_no hpp
        rw [atsR_end hr2] at hA
        rw [tok_end hh hA.symm] at hrd
        obtain ⟨hz1, hz2, hz3, hz4⟩ := HSk nm tx r0 acc r hh hA.symm
        clear HSk hA hr2 hpp hh
        refine sgo ?_
        refine wcutr (X := Unit) (fun _ => [(0, ptrAt (pb b) 0), (2, ptrAt (pb bR) 0), (7, ptrAt (pb bT) 0)])
          (fun _ w' => Sep w0 w' (pOwn b [str (if r = [32, 47] then [] else r)] :: pRow 2 q acc.length c (acc.flatMap At.cells) :: pOwn bT [int k, str nm, str tx, .slice q acc.length c, .bool (decide (r = [32, 47])), int 0, int 0, int 0] :: pOwn bR zeroV :: cs)) ?_ ?_
        · (show WC _ _ _ _ _ _ _; first | refine WC_dec rfl (fun hc => ?_) (fun hc => ?_) | refine WC_cond rfl (fun hc => ?_) (fun hc => ?_))
          · refine sgo ?_
            refine sst_bool hS 2 fun w10 hS => ?_
            refine sgo ?_
            refine sst_str hS 0 fun w11 hS => ?_
            refine sgo ?_
            refine ⟨(), ⟨rfl, rfl, rfl, trivial⟩, ?_⟩
            rw [if_pos hc, decide_eq_true hc]
            exact hS
          · refine sgo ?_
            refine ⟨(), ⟨rfl, rfl, rfl, trivial⟩, ?_⟩
            rw [if_neg hc, decide_eq_false hc]
            exact hS
        clear hS
        rintro _ w10 ρ4 hS
        have hse : (r = [] ∨ r = [32, 47]) ↔ (if r = [32, 47] then [] else r) = [] := by
          by_cases h : r = [32, 47]
          · simp [h]
          · simp [h]
        simp only [hse] at hrd
        clear hse
        generalize (if r = [32, 47] then [] else r) = e at *
        generalize decide (r = [32, 47]) = sf at *
        have hst : Tok.small ⟨k, nm, tx, acc, sf, 0, 0, 0⟩ := ⟨hz1, hz2, hz3, hz4⟩
        refine sgo ?_
        refine wlcallgp (vals := [.agg ⟨Tok.cells ⟨k, nm, tx, acc, sf, 0, 0, 0⟩ q c⟩]) (fun _ => check_ok ⟨k, nm, tx, acc, sf, 0, 0, 0⟩ q c hst _ (hS.im 1 rfl)) fun w11 hf11 => ?_
        replace hS := hS.grow hf11
        clear hf11
        refine sgo ?_
        by_cases he : e = [] ∧ mayR ⟨k, nm, tx, acc, sf, 0, 0, 0⟩ = true
        · rw [if_pos he] at hrd
          refine wcno ?_ (ht := by simp [pkb, he.1, he.2])
          refine sgo ?_
          refine ssta (vs := Tok.cells ⟨k, nm, tx, acc, sf, 0, 0, 0⟩ q c) hS 3 fun w12 hS => ?_
          refine sgo ?_
          refine fpP (c := ⟨[], none⟩) (.inl rfl) ?_ rfl
          refine fpc (.inl rfl) rfl rfl rfl (hS.own 3 rfl) ?_
          exact ⟨⟨k, nm, tx, acc, sf, 0, 0, 0⟩, q, c, hrd.symm, rfl, e, ((hS.drop 3).drop 2).front 1 rfl⟩
        · rw [if_neg he] at hrd
          refine wcyes ?_ (ht := by
            by_cases h1 : e = []
            · have h2 : mayR ⟨k, nm, tx, acc, sf, 0, 0, 0⟩ = false := Bool.eq_false_iff.2 fun h => he ⟨h1, h⟩
              simp [pkb, h1, h2]
            · simp [pkb, h1])
          refine sgo ?_
          refine wlbuild ?_
          refine wlmki ?_ stop_conc
          refine wlpan ?_
          repeat (first | refine thn_panic ?_ | refine thl_panic ?_ | refine blk_panic ?_ | refine ngt_panic ?_)
          exact fpPan ⟨hrd.symm, rfl, e, ((hS.drop 3).drop 2).drop 1⟩ rfl
  · have hk : k = 5 := by omega
    subst hk
    clear hc
    have hrd' : R = none := hrd.symm
    refine sgo ?_
    refine wlbuild ?_
    refine wlmki ?_ stop_conc
    refine wlpan ?_
    repeat (first | refine thn_panic ?_ | refine thl_panic ?_ | refine blk_panic ?_ | refine ngt_panic ?_)
    exact fpPan ⟨hrd', rfl, s, hS.tail⟩ rfl
end Go.Proofs.YthgbpgjpnaanlaaDoor

/-
  Interface values compared with nil; type assertions that hold.
-/
set_option linter.unusedSimpArgs false
set_option linter.unusedVariables false
set_option linter.unnecessarySimpa false
namespace Go.Sv
open Go Go.RowKit
section
variable {P : Program} {σ : Env} {w : World} {d : Option Tmp} {ty t t' T xt : TypeId} {pos : String} {af : Array Edge} {g : Option (Nat × Bool)} {x y : Operand} {v : Value}
theorem y_inn0 {desc : TypeDesc} (hu : P.underlying t = some desc) (hd : (match desc with | .interface _ => true | _ => false) = true) (hx : evl σ x = .nilIface) : Y P σ ⟨d, .binOp .neq t x (.const .nilIface) t', ty, pos, af, g⟩ w (.bool false) w := by
  refine Y.val ?_
  have h : ∀ k : Nat, (Op.equalIn (k + 1) t .nilIface .nilIface).run P w = .ok true w := fun k => by
    cases desc <;> first | (cases hd; done) | simp [Op.equalIn, run_underlying hu]
  have he : evl σ (.const .nilIface) = .nilIface := rfl
  simp only [execOp, hx, he]
  simp [eqGuard, binOp, Op.equal, Op.maxDepth, h 9999]
theorem y_inn1 {desc : TypeDesc} (hu : P.underlying t = some desc) (hd : (match desc with | .interface _ => true | _ => false) = true) (hx : evl σ x = .iface T v) : Y P σ ⟨d, .binOp .neq t x (.const .nilIface) t', ty, pos, af, g⟩ w (.bool true) w := by
  refine Y.val ?_
  have h : ∀ k : Nat, (Op.equalIn (k + 1) t (.iface T v) .nilIface).run P w = .ok false w := fun k => by
    cases desc <;> first | (cases hd; done) | simp [Op.equalIn, run_underlying hu]
  have he : evl σ (.const .nilIface) = .nilIface := rfl
  simp only [execOp, hx, he]
  simp [eqGuard, binOp, Op.equal, Op.maxDepth, h 9999]
theorem y_tas {desc : TypeDesc} (hu : P.underlying T = some desc) (hd : (match desc with | .interface _ => false | _ => true) = true) (hx : evl σ x = .iface T v) : Y P σ ⟨d, .typeAssert x xt T true, ty, pos, af, g⟩ w (.tuple #[v, .bool true]) w := by
  refine Y.val ?_
  have h : (Instr.typeAssert (.iface T v) xt T true).run P w = .ok (.tuple #[v, .bool true]) w := by
    cases desc <;> first | (cases hd; done) | simp [Instr.typeAssert, run_underlying hu]
  simp only [execOp, hx]
  rw [Sem.run_bind, h]
  rfl
end
end Go.Sv

/-
  Package token, reading: a line.
-/
set_option linter.unusedSimpArgs false
set_option linter.unusedVariables false
set_option linter.unnecessarySimpa false
namespace Go.Proofs.YthgbpgjpnaanlaaDoor
open Go Go.Sv Go.RowKit

set_option maxHeartbeats 1000000 in
/-- the deferred function of line, where nothing has panicked -/
theorem line1_back (bt bo : Nat) (w : World) (R : Ending → FrameMode → World → Prop) (h : R (.returned (.tuple #[])) .returning w) :
    CallsDIn Fence.wide 0 Tryd.prog 139 #[ptrAt (pb bt) 0, ptrAt (pb bo) 0] .returning w R := by
  refine enterDR (l := [ptrAt (pb bt) 0, ptrAt (pb bo) 0]) (v := .nilIface) Tryd.func139 rfl Tryd.ntmps139 (by kernel_rfl) rfl rfl rfl rfl .returning ?_
  refine sgo ?_
  refine wl ?_ (y_inn0 Tryd.underlying20 rfl rfl)
  refine sgo ?_
  exact fpD0 (.inr rfl) rfl h
set_option maxHeartbeats 1000000 in
/-- .. and where it has -/
theorem line1_caught (bt bo : Nat) (w0 w : World) (cs : List Plot) (hS : Sep w0 w (pOwn bt zeroV :: pOwn bo [.bool false] :: cs)) (R : Ending → FrameMode → World → Prop)
    (h : ∀ w', Sep w0 w' (pOwn bt zeroV :: pOwn bo [.bool false] :: cs) → R (.returned (.tuple #[])) (.panicking [{ v := stopV, recovered := true }]) w') :
    CallsDIn Fence.wide 0 Tryd.prog 139 #[ptrAt (pb bt) 0, ptrAt (pb bo) 0] (.panicking stopE) w R := by
  refine enterDR (l := [ptrAt (pb bt) 0, ptrAt (pb bo) 0]) (v := stopV) Tryd.func139 rfl Tryd.ntmps139 (by kernel_rfl) rfl rfl rfl rfl (.panicking stopV []) ?_
  refine sgo ?_
  refine wl ?_ (y_inn1 Tryd.underlying20 rfl rfl)
  refine sgo ?_
  refine wl ?_ (y_tas Tryd.underlying192 rfl rfl)
  refine sgo ?_
  refine salloc hS fun b3 w1 hS => ?_
  refine sgo ?_
  refine ssta (vs := []) hS 0 fun w2 hS => ?_
  refine sgo ?_
  refine wlbuild ?_
  refine ssta (vs := zeroV) hS 1 (fun w3 hS => ?_) (hy := rfl)
  refine sgo ?_
  refine sst_bool hS 2 fun w4 hS => ?_
  refine sgo ?_
  refine fpD0 (.inr rfl) rfl (h _ hS.tail)
/-! ## line -/
set_option maxHeartbeats 1000000 in
theorem line_ok (s : List UInt8) (hb : s.length ≤ 16777216) (HS : lineS s) (w : World) :
    CallsR Tryd.prog 126 #[str s] w fun v w' => match readR s with
      | some t => ∃ p c, v = .tuple #[.agg ⟨Tok.cells t p c⟩, .bool true] ∧ Sep w w' [pRow 2 p t.attrs.length c (t.attrs.flatMap At.cells)]
      | none => v = .tuple #[.agg ⟨zeroV⟩, .bool false] ∧ Sep w w' [] := by
  have hS := Sep.start w
  refine enter (l := [str s]) Tryd.func126 rfl Tryd.ntmps126 (by kernel_rfl) rfl ?_
  refine sgo ?_
  refine salloc hS fun bt w1 hS => ?_
  refine sgo ?_
  refine salloc hS fun bo w2 hS => ?_
  replace hS : Sep w w2 [pOwn bo [.bool false], pOwn bt zeroV] := hS
  refine sgo ?_
  refine wldefer ?_
  refine sgo ?_
  refine wlbuild ?_
  refine sgo ?_
  refine sbox hS fun br w3 hS => ?_
  replace hS : Sep w w3 [pOwn br [str s], pOwn bo [.bool false], pOwn bt zeroV] := hS
  refine sgo ?_
  refine wlcallP (token_ok br s hb HS w _ _ hS) ?_ ?_
  · clear hS
    rintro _ w4 ⟨t, p, c, ht, rfl, s', hS⟩
    rw [ht]
    dsimp only
    refine sgo ?_
    refine ssta (vs := Tok.cells t p c) hS 3 fun w5 hS => ?_
    refine sgo ?_
    refine sst_bool hS 2 fun w6 hS => ?_
    refine sgo ?_
    refine fp_leave (.inl rfl) ?_
    refine leave_fv (cap := [ptrAt (pb bt) 0, ptrAt (pb bo) 0]) (by simp) ?_
    refine line1_back bt bo _ _ ?_
    refine leave_two (b1 := bt) (b2 := bo) (l := Tok.cells t p c) (v := .bool true) rfl rfl ⟨rfl, rfl⟩ (hS.own 3 rfl) (hS.own 2 rfl) ?_
    exact ⟨p, c, rfl, ((hS.drop 3).drop 2).drop 1⟩
  · clear hS
    rintro ch w4 ⟨hn, rfl, s', hS⟩
    rw [hn]
    dsimp only
    repeat (first | refine thn_panic ?_ | refine thl_panic ?_ | refine blk_panic ?_ | refine ngt_panic ?_)
    refine fp_panic ?_
    refine leave_fv (cap := [ptrAt (pb bt) 0, ptrAt (pb bo) 0]) (by simp) ?_
    refine line1_caught bt bo w w4 [] ((hS.tail).front 1 rfl) _ fun w5 hS => ?_
    refine leave_two (b1 := bt) (b2 := bo) (l := zeroV) (v := .bool false) rfl rfl ⟨rfl, rfl⟩ (hS.own 0 rfl) (hS.own 1 rfl) ?_
    exact ⟨rfl, hS.tail.tail⟩
end Go.Proofs.YthgbpgjpnaanlaaDoor

/-
  Packages token and sieveref07: Equal, Attr, SameAttrs; sievelaw07: TokenChecks.
-/
set_option linter.unusedSimpArgs false
set_option linter.unusedVariables false
set_option linter.unnecessarySimpa false
namespace Go.Proofs.YthgbpgjpnaanlaaDoor
open Go Go.Sv Go.RowKit

def eqR (a b : Tok) : Bool := decide (a.kind = b.kind) && (decide (a.name = b.name) && (decide (a.text = b.text) && (decide (a.self = b.self) && decide (a.attrs = b.attrs))))
def attrR (es : List At) (n : List UInt8) : Option At := es.find? fun x => decide (x.n = n)
def attrV (o : Option At) : Value := match o with | some x => .tuple #[str x.v, .bool true] | none => .tuple #[str [], .bool false]










































end Go.Proofs.YthgbpgjpnaanlaaDoor

/-
  Tokens in memory of one's own: copied, own, Same, spoil.
-/
set_option linter.unusedSimpArgs false
set_option linter.unusedVariables false
set_option linter.unnecessarySimpa false
namespace Go.Proofs.YthgbpgjpnaanlaaDoor
open Go Go.Sv Go.RowKit

/-- a token's attributes in memory of one's own -/
def AtR (w : World) (lo : Nat) (m : TokM) : Prop := Row w 2 m.p m.t.attrs.length m.c (m.t.attrs.flatMap At.cells) ∧ ∀ x ∈ rb m.p, lo ≤ x
theorem AtR.frm {w w' : World} {lo : Nat} {m : TokM} (h : AtR w lo m) (hf : Frm w w') : AtR w' lo m := ⟨h.1.frm hf, h.2⟩
theorem AtR.im {w : World} {lo : Nat} {m : TokM} (h : AtR w lo m) : Im [] w m.p (m.t.attrs.flatMap At.cells) := h.1.im (by simp)
/-- the blocks of a list of tokens -/
def tbl (q : Option Addr) (ms : List TokM) : List Nat := rb q ++ ms.flatMap fun m => rb m.p
/-- a list of tokens in memory of one's own -/
structure TL (w : World) (lo : Nat) (q : Option Addr) (cc : Nat) (ms : List TokM) : Prop where
  row : Row w 8 q ms.length cc (ms.flatMap TokM.cells)
  low : ∀ x ∈ rb q, lo ≤ x
  each : ∀ m ∈ ms, AtR w lo m
  apart : ∀ m ∈ ms, ∀ x ∈ rb m.p, x ∉ rb q
  pair : ms.Pairwise fun a b => ∀ x ∈ rb a.p, x ∉ rb b.p
theorem TL.nil (w : World) (lo : Nat) : TL w lo none 0 [] := ⟨Row.nil w 8, by simp [rb], by simp, by simp, .nil⟩
theorem TL.toks {w : World} {lo : Nat} {q : Option Addr} {cc : Nat} {ms : List TokM} (h : TL w lo q cc ms) : Toks w q ms := ⟨h.row.im (by simp), fun m hm => (h.each m hm).im⟩
theorem TL.frm {w w' : World} {lo : Nat} {q : Option Addr} {cc : Nat} {ms : List TokM} (h : TL w lo q cc ms) (hf : Frm w w') : TL w' lo q cc ms :=
  ⟨h.row.frm hf, h.low, fun m hm => (h.each m hm).frm hf, h.apart, h.pair⟩
theorem TL.lt {w : World} {lo : Nat} {q : Option Addr} {cc : Nat} {ms : List TokM} (h : TL w lo q cc ms) : ∀ x ∈ tbl q ms, lo ≤ x ∧ x < w.heap.size := by
  intro x hx
  rcases List.mem_append.1 hx with hx | hx
  · exact ⟨h.low x hx, h.row.lt x hx⟩
  · obtain ⟨m, hm, hx⟩ := List.mem_flatMap.1 hx
    exact ⟨(h.each m hm).2 x hx, (h.each m hm).1.lt x hx⟩
theorem TL.le {w w' : World} {lo : Nat} {q : Option Addr} {cc : Nat} {ms : List TokM} {M : List Nat} (h : TL w lo q cc ms) (hl : Le M w w') (hM : ∀ x ∈ tbl q ms, x ∉ M) : TL w' lo q cc ms :=
  ⟨h.row.le hl fun x hx => hM x (List.mem_append_left _ hx), h.low,
   fun m hm => ⟨(h.each m hm).1.le hl fun x hx => hM x (List.mem_append_right _ (List.mem_flatMap.2 ⟨m, hm, hx⟩)), (h.each m hm).2⟩, h.apart, h.pair⟩
/-- one more at the end -/
theorem TL.push {w w' : World} {lo : Nat} {q q' : Option Addr} {cc cc' : Nat} {ms : List TokM} {m : TokM} (h : TL w lo q cc ms) (hm : AtR w lo m) (hap : ∀ x ∈ rb m.p, x ∉ tbl q ms)
    (hr : Row w' 8 q' (ms.length + 1) cc' (ms.flatMap TokM.cells ++ m.cells)) (hl : Lm (rb q) w (rb q') w') (hlo : lo ≤ w.heap.size) : TL w' lo q' cc' (ms ++ [m]) := by
  have hq : ∀ x ∈ rb q', x ∈ rb q ∨ w.heap.size ≤ x := fun x hx => by
    rcases Nat.lt_or_ge x w.heap.size with h1 | h1
    · exact .inl (hl.2 x hx h1)
    · exact .inr h1
  have hapq : ∀ m' : TokM, AtR w lo m' → (∀ x ∈ rb m'.p, x ∉ rb q) → AtR w' lo m' ∧ ∀ x ∈ rb m'.p, x ∉ rb q' := fun m' h1 h2 =>
    ⟨⟨h1.1.le hl.1 h2, h1.2⟩, fun x hx hx' => by
      rcases hq x hx' with h3 | h3
      · exact h2 x hx h3
      · have := h1.1.lt x hx; omega⟩
  have hm2 := hapq m hm fun x hx hx' => hap x hx (List.mem_append_left _ hx')
  refine ⟨by simpa [List.flatMap_append] using hr, ?_, ?_, ?_, ?_⟩
  · intro x hx
    rcases hq x hx with h1 | h1
    · exact h.low x h1
    · omega
  · intro m' hm'
    rcases List.mem_append.1 hm' with h1 | h1
    · exact (hapq m' (h.each m' h1) (h.apart m' h1)).1
    · rw [List.mem_singleton.1 h1]; exact hm2.1
  · intro m' hm'
    rcases List.mem_append.1 hm' with h1 | h1
    · exact (hapq m' (h.each m' h1) (h.apart m' h1)).2
    · rw [List.mem_singleton.1 h1]; exact hm2.2
  · rw [List.pairwise_append]
    refine ⟨h.pair, List.pairwise_singleton _ _, fun a ha b hb x hx hx' => ?_⟩
    rw [List.mem_singleton.1 hb] at hx'
    exact hap x hx' (List.mem_append_right _ (List.mem_flatMap.2 ⟨a, ha, hx⟩))







































theorem tok_one (t : Tok) (p : Option Addr) (c : Nat) : ∀ u ∈ t.cells p c, u.oneCell' = true := by simp [Tok.cells, Value.oneCell']
theorem small_of {ms : List TokM} (h : ∀ m ∈ ms, m.t.small) {m : TokM} {i : Nat} (hx : ms[i]? = some m) : m.t.small := h m (List.mem_of_getElem? hx)


















































































end Go.Proofs.YthgbpgjpnaanlaaDoor

/-
  Package token: Parse.
-/
set_option linter.unusedSimpArgs false
set_option linter.unusedVariables false
set_option linter.unnecessarySimpa false
namespace Go.Proofs.YthgbpgjpnaanlaaDoor
open Go Go.Sv Go.RowKit

theorem readF_small : ∀ (ws : List (List UInt8)) (k : Nat) (s : List UInt8) (t : Tok), wordsL.drop k = ws → lineS s → readF k ws s = some t → t.small
  | [], k, s, t, _, _, h => by cases h
  | x :: ws, k, s, t, hd, hS, h => by
    have hx : wordsL[k]? = some x := by
      have := congrArg (·[0]?) hd
      simpa using this
    rw [readF] at h
    split at h
    · rename_i hp
      unfold tokR at h
      cases hh : headT k (s.drop x.length) with
      | none => rw [hh] at h; cases h
      | some z =>
        obtain ⟨nm, tx, r⟩ := z
        rw [hh] at h
        dsimp only at h
        cases ha : atsR r [] with
        | none => rw [ha] at h; cases h
        | some y =>
          obtain ⟨es, r2⟩ := y
          rw [ha] at h
          dsimp only at h
          obtain ⟨z1, z2, z3, z4⟩ := hS k x nm tx r es r2 hx hp hh ha
          split at h
          · injection h with h
            subst h
            exact ⟨z1, z2, z3, z4⟩
          · cases h
    · refine readF_small ws (k + 1) s t ?_ hS h
      have := congrArg List.tail hd
      simpa [List.tail_drop] using this
theorem read_smallS {s : List UInt8} {t : Tok} (hS : lineS s) (h : readR s = some t) : t.small := readF_small _ 0 s t rfl hS h
set_option maxHeartbeats 1000000 in
theorem parse_ok (s : List UInt8) (hb : s.length ≤ 16777216) (HS : ∀ y ∈ linesR s, lineS y) (w : World) :
    CallsR Tryd.prog 104 #[str s] w fun v w' => Frm w w' ∧ ((0 < (parseR s).2 ∧ v = .tuple #[.slice none 0 0, int (parseR s).2, int 70]) ∨
      ((parseR s).2 = 0 ∧ ∃ q cc ms, v = .tuple #[.slice q ms.length cc, int 0, int 0] ∧ ms.map TokM.t = (parseR s).1 ∧ TL w' w.heap.size q cc ms ∧ (∀ m ∈ ms, m.t.small) ∧ ms.length ≤ s.length)) := by
  obtain ⟨R, hR⟩ : ∃ R, parseR s = R := ⟨_, rfl⟩
  rw [hR]
  unfold parseR at hR
  refine enter (l := [str s]) Tryd.func104 rfl Tryd.ntmps104 (by kernel_rfl) rfl ?_
  refine sgo ?_
  refine wcloop (X := Nat × List UInt8 × Option Addr × Nat × List TokM) (fun x => [(0, str x.2.1), (5, .slice x.2.2.1 x.2.2.2.2.length x.2.2.2.1), (6, int x.1)])
    (fun x wr => parseF x.1 (linesR x.2.1) (x.2.2.2.2.map TokM.t) = R ∧ x.1 + x.2.1.length ≤ s.length + 1 ∧ (∀ y ∈ linesR x.2.1, lineS y) ∧ x.2.2.2.2.length + 1 = x.1 ∧ (∀ m ∈ x.2.2.2.2, m.t.small) ∧ TL wr w.heap.size x.2.2.1 x.2.2.2.1 x.2.2.2.2 ∧ Frm w wr)
    (fun x => x.2.1.length) (1, s, none, 0, []) ⟨rfl, rfl, rfl, trivial⟩ ⟨hR, by dsimp only; omega, HS, rfl, by simp, TL.nil w _, Frm.refl _⟩ ?_
  clear hR HS
  rintro ⟨n, rest, q, cc, ms⟩ wr ρ ⟨hP, hnl, HS, hml, hsm, hTL, hfr⟩
  dsimp only at hP hnl HS hml hsm hTL ⊢
  refine sgo ?_
  by_cases hr : rest = []
  · subst hr
    refine wcno ?_ (ht := by rfl)
    have hR : R = (ms.map TokM.t, 0) := hP.symm
    refine sgo ?_
    (first | refine fp1 (.inl rfl) rfl rfl ?_ | refine fp2 (.inl rfl) rfl rfl rfl ?_ | refine fp3 (.inl rfl) rfl rfl rfl rfl ?_ | refine fp0 (.inr rfl) rfl ?_ | refine fp0 (.inl rfl) rfl ?_ | refine fp1 (.inr rfl) rfl rfl ?_)
    exact ⟨hfr, .inr ⟨by rw [hR], q, cc, ms, rfl, by rw [hR], hTL, hsm, by simp at hnl; omega⟩⟩
  · refine wcyes ?_ (ht := by simp [hr])
    rw [lines_cut hr] at hP HS
    have HS1 := HS _ List.mem_cons_self
    have HS2 := fun y hy => HS y (List.mem_cons_of_mem _ hy)
    clear HS
    obtain ⟨c1, c2, c3⟩ := cutT_len rest
    have c3' := c3 hr
    refine sgo ?_
    refine wlpure (cut10_ok rest (by omega) _) fun w1 hf1 => ?_
    unfold cutV
    have hx1 : (cutN rest).1.length ≤ 16777216 := by omega
    generalize (cutN rest).1 = one at *
    generalize (cutN rest).2.1 = r2 at *
    generalize (cutN rest).2.2 = fnd at *
    refine sgo ?_
    refine wlcall (line_ok one hx1 HS1 _) ?_
    cases ht : readR one with
    | none =>
      dsimp only
      rintro _ w2 ⟨rfl, hS2⟩
      have hR : R = ([], n) := by
        rw [← hP]
        simp only [parseF]
        rw [ht]
      have hf2 := (hfr.trans hf1).trans hS2.frm
      refine sgo ?_
      refine wlalloc fun b5 w5 hb5 o5 hf5 => ?_
      refine sgo ?_
      refine wlstorea0 (vs := zeroV) o5 (fun w6 o6 hl6 => ?_) (hx := rfl) (hy := rfl) (h1 := by simp [zeroV, Value.oneCell'])
      have hz2 := hf2.size
      have hfr6 := (hf2.trans hf5).step hl6 (by intro x hx; simp at hx; omega)
      refine sgo ?_
      (first | refine fp1 (.inl rfl) rfl rfl ?_ | refine fp2 (.inl rfl) rfl rfl rfl ?_ | refine fp3 (.inl rfl) rfl rfl rfl rfl ?_ | refine fp0 (.inr rfl) rfl ?_ | refine fp0 (.inl rfl) rfl ?_ | refine fp1 (.inr rfl) rfl rfl ?_)
      rw [hR]
      exact ⟨hfr6, .inl ⟨by dsimp only; omega, rfl⟩⟩
    | some t =>
      dsimp only
      rintro _ w2 ⟨p, c, rfl, hS2⟩
      have hP2 : parseF (n + 1) (linesR r2) ((ms ++ [(⟨t, p, c⟩ : TokM)]).map TokM.t) = R := by
        rw [← hP, List.map_append]
        simp only [parseF]
        rw [ht]
        rfl
      have hts := read_smallS HS1 ht
      have hf2 := (hfr.trans hf1).trans hS2.frm
      have hrow := hS2.row 0 rfl
      have hlow : ∀ x ∈ rb p, w1.heap.size ≤ x := hS2.low _ List.mem_cons_self
      have hTL2 := (hTL.frm hf1).frm hS2.frm
      clear hP ht
      refine sgo ?_
      refine wlalloc fun b5 w5 hb5 o5 hf5 => ?_
      refine sgo ?_
      refine wlstorea0 (vs := Tok.cells t p c) o5 (fun w6 o6 hl6 => ?_) (hx := rfl) (hy := rfl) (h1 := tok_one _ _ _)
      have hz2 := hf2.size
      have hfr6 := (hf2.trans hf5).step hl6 (by intro x hx; simp at hx; omega)
      have hTL6 := (hTL2.frm hf5).le hl6 (fun x hx => by have := (hTL2.lt x hx).2; simp; omega)
      have hrow6 := (hrow.frm hf5).le hl6 (fun x hx => by have := hrow.lt x hx; simp; omega)
      simp only [Tok.cells] at o6
      refine sgo ?_
      refine wlb1a (size := 8) (vs := Tok.cells t p c) (fun b10 w10 hb10 o10 hf10 => ?_) (hx := rfl) (hv := rfl)
      have hTL10 := hTL6.frm hf10
      have hrow10 := hrow6.frm hf10
      have hz1 := hf1.size
      have hzr := hfr.size
      refine sgo ?_
      refine wlapp hTL10.row o10.sg (fun q11 c11 w11 hr11 hl11 => ?_) (hl := rfl) (h1 := tok_one _ _ _)
      have hTL11 : TL w11 w.heap.size q11 c11 (ms ++ [⟨t, p, c⟩]) := by
        refine hTL10.push (m := ⟨t, p, c⟩) ⟨hrow10, fun x hx => by have := hlow x hx; omega⟩ (fun x hx hx' => ?_) hr11 hl11 (hfr6.trans hf10).size
        have := hlow x hx
        have := (hTL.lt x hx').2
        omega
      have hfr11 : Frm w w11 := (hfr6.trans hf10).step hl11.1 (fun x hx => hTL.low x hx)
      have hml2 : (ms ++ [(⟨t, p, c⟩ : TokM)]).length = ms.length + 1 := by rw [List.length_append]; rfl
      refine sgo ?_
      refine ⟨(n + 1, r2, q11, c11, ms ++ [⟨t, p, c⟩]), ⟨rfl, ?_, rfl, trivial⟩, ⟨hP2, by dsimp only; omega, HS2, by dsimp only; omega, fun m hm => ?_, hTL11, hfr11⟩, by dsimp only; omega⟩
      · dsimp only
        rw [hml2]
        rfl
      · rcases List.mem_append.1 hm with hm | hm
        · exact hsm m hm
        · rw [List.mem_singleton.1 hm]; exact hts
end Go.Proofs.YthgbpgjpnaanlaaDoor

/-
  Package event: read.
-/
set_option linter.unusedSimpArgs false
set_option linter.unusedVariables false
set_option linter.unnecessarySimpa false
namespace Go.Sv
open Go Go.RowKit
theorem qxalloc {P : Program} {σ : GE} {w0 : World} {K : Env → World → Prop} {d : Nat} {e ty : TypeId} {pos : String} {af : Array Edge} {zv : Value} {size bytes : Nat} [hi : Inf P e zv size bytes] (h : ∀ b w', Frm w0 w' → w0.heap.size ≤ b → Own w' b zv.cells.toList → K (real (updG σ d ⟨ptrAt (pb b) 0, true⟩)) w') :
    QX P w0 ⟨some d, .alloc e, ty, pos, af, none⟩ (real σ) K := by
  refine ⟨fun u w => ∃ b, u = ptrAt (pb b) 0 ∧ w0.heap.size ≤ b ∧ Own w b zv.cells.toList, ?_, ?_, ?_⟩
  · rintro u w w' ⟨b, rfl, h1, h2⟩ hf
    exact ⟨b, rfl, h1, h2.frm hf⟩
  · intro w hw
    refine ⟨_, w.alloc (.cells zv.cells e), ?_, frm_alloc _ _, w.heap.size, rfl, hw.size, own_alloc _ _ _⟩
    simp [execOp, Instr.alloc, run_zeroValue (P := P) (t := e), newVar, newRow]
    rfl
  · rintro u w hw ⟨b, rfl, h1, h2⟩
    have := h b w hw h1 h2
    rw [← real_upd] at this
    exact this
theorem qlbuild {P : Program} {n : Nat} {ds : Ctx} {ops : Array Oper} {C : World → Prop} {QE : Env → Prop} {rest : List Oper} {σ : GE} {d : Nat} {t ty : TypeId} {pos : String} {af : Array Edge} {zv : Value} {size bytes : Nat} {pl : List (Nat × Nat)} {ps : List (Nat × Operand)} {cells : List Value} [hf : Flds P t pl] [hi : Inf P t zv size bytes]
    (h : QL P n ds ops C QE rest (real (updG σ d ⟨.agg cells.toArray, true⟩)))
    (hc : fillL pl zv.cells.toList (ps.map fun p => (p.1, evl (real σ) p.2)) = some cells := by
      simp only [List.map, Go.Sv.evl, Go.Sv.realB, Nat.reduceBEq, cond_true, cond_false, Go.Sv.rv_true, Go.Sv.entG, Go.Sv.updGL]
      simp [Go.Sv.fillL, Go.Sv.setSeg, Go.Value.cells]
      first | done | rfl) :
    QL P n ds ops C QE (⟨some d, .build t ps.toArray, ty, pos, af, none⟩ :: rest) (real σ) := ql h (YQ.ofY fun _ _ => y_build hc)
end Go.Sv
namespace Go.Proofs.YthgbpgjpnaanlaaDoor
open Go Go.Sv Go.RowKit

theorem index_cutB : ∀ l : List UInt8, (Lib.indexByte l 32 = -1 ∧ cutB l = (l, [])) ∨ ∃ i : Nat, i < l.length ∧ Lib.indexByte l 32 = i ∧ cutB l = (l.take i, l.drop (i + 1))
  | [] => .inl ⟨rfl, rfl⟩
  | c :: l => by
    unfold Lib.indexByte cutB
    by_cases hc : c.toNat = 32
    · have : c = 32 := UInt8.toNat_inj.1 hc
      subst this
      exact .inr ⟨0, by simp, rfl, rfl⟩
    · have hne : (c == 32) = false := by
        rw [beq_eq_false_iff_ne]
        intro h
        subst h
        exact hc rfl
      rw [hne, if_neg hc]
      rcases index_cutB l with ⟨h1, h2⟩ | ⟨i, h0, h1, h2⟩
      · left
        rw [h1, h2]
        exact ⟨rfl, rfl⟩
      · right
        refine ⟨i + 1, by simp; omega, ?_, ?_⟩
        · have : (Lib.indexByte l 32 == -1) = false := by rw [h1, beq_eq_false_iff_ne]; omega
          rw [this, h1]
          simp
        · rw [h2]; rfl
theorem idx32_ok (s : List UInt8) (w : World) : PureC Tryd.prog 138 #[str s, str [32]] w (.int .i64 (Lib.indexByte s 32)) := by
  refine Calls.mono (Tryd.stringslite_Index_one ⟨s.toArray⟩ 32 w) ?_
  rintro e w' ⟨rfl, rfl⟩
  exact ⟨_, rfl, rfl, Frm.refl _⟩
def fnd32 (s : List UInt8) : Bool := decide (0 ≤ Lib.indexByte s 32)
set_option maxHeartbeats 1000000 in
theorem litCut32_ok (s : List UInt8) (hb : s.length ≤ 16777216) (w : World) : PureC Tryd.prog 125 #[str s, str [32]] w (.tuple #[str (cutB s).1, str (cutB s).2, .bool (fnd32 s)]) := by
  have hix := fun w => idx32_ok s w
  unfold fnd32
  refine enter (l := [str s, str [32]]) Tryd.func125 rfl Tryd.ntmps125 (by kernel_rfl) rfl ?_
  refine sgo ?_
  refine wlpure (hix _) fun w1 hf1 => ?_
  rcases index_cutB s with ⟨h1, h2⟩ | ⟨i, hi, h1, h2⟩
  · rw [h1, h2]
    refine sgo ?_
    (first | refine fp1 (.inl rfl) rfl rfl ?_ | refine fp2 (.inl rfl) rfl rfl rfl ?_ | refine fp3 (.inl rfl) rfl rfl rfl rfl ?_ | refine fp0 (.inr rfl) rfl ?_ | refine fp0 (.inl rfl) rfl ?_ | refine fp1 (.inr rfl) rfl rfl ?_); refine ⟨?_, by (first | exact Frm.refl _ | assumption | exact Go.Sv.Sep.frm (by assumption) | (refine Frm.trans ?_ (by assumption); first | exact Frm.refl _ | assumption))⟩; (try simp only [realB, rv_true, Nat.reduceBEq, cond_true, cond_false, entG, real_lif, updGL])
    all_goals rfl
  · rw [h1, h2]
    refine sgo ?_
    refine wcyes ?_ (ht := by simp)
    refine sgo ?_
    refine wcdraw ?_
    refine qgo ?_
    have h10 : ([32] : List UInt8).length = 1 := rfl
    rw [h10]
    refine qgo ?_
    refine QL_nil ?_
    intro w2 hf2
    refine thn_normal ?_
    refine sgo ?_
    have e1 : ((i : Int) + ((1 : Nat) : Int)).toNat = i + 1 := by omega
    simp only [e1]
    have hf := hf1.trans hf2
    clear hf1 hf2
    (first | refine fp1 (.inl rfl) rfl rfl ?_ | refine fp2 (.inl rfl) rfl rfl rfl ?_ | refine fp3 (.inl rfl) rfl rfl rfl rfl ?_ | refine fp0 (.inr rfl) rfl ?_ | refine fp0 (.inl rfl) rfl ?_ | refine fp1 (.inr rfl) rfl rfl ?_); refine ⟨?_, by (first | exact Frm.refl _ | assumption | exact Go.Sv.Sep.frm (by assumption) | (refine Frm.trans ?_ (by assumption); first | exact Frm.refl _ | assumption))⟩; (try simp only [realB, rv_true, Nat.reduceBEq, cond_true, cond_false, entG, real_lif, updGL])
    have e2 : decide (0 ≤ (i : Int)) = true := by simp
    rw [e2]
    all_goals rfl
theorem cut32_ok (s : List UInt8) (hb : s.length ≤ 16777216) (w : World) : PureC Tryd.prog 103 #[str s, str [32]] w (.tuple #[str (cutB s).1, str (cutB s).2, .bool (fnd32 s)]) := by
  have hix := fun w => litCut32_ok s hb w
  refine enter (l := [str s, str [32]]) Tryd.func103 rfl Tryd.ntmps103 (by kernel_rfl) rfl ?_
  refine sgo ?_
  refine wlpure (hix _) fun w1 hf1 => ?_
  refine sgo ?_
  (first | refine fp1 (.inl rfl) rfl rfl ?_ | refine fp2 (.inl rfl) rfl rfl rfl ?_ | refine fp3 (.inl rfl) rfl rfl rfl rfl ?_ | refine fp0 (.inr rfl) rfl ?_ | refine fp0 (.inl rfl) rfl ?_ | refine fp1 (.inr rfl) rfl rfl ?_); refine ⟨?_, by (first | exact Frm.refl _ | assumption | exact Go.Sv.Sep.frm (by assumption) | (refine Frm.trans ?_ (by assumption); first | exact Frm.refl _ | assumption))⟩; (try simp only [realB, rv_true, Nat.reduceBEq, cond_true, cond_false, entG, real_lif, updGL])
  all_goals rfl
theorem sIndex10_ok (s : List UInt8) (w : World) : PureC Tryd.prog 123 #[str s, str [10]] w (.int .i64 (Lib.indexByte s 10)) := by
  have hix := fun w => idx10_ok s w
  refine enter (l := [str s, str [10]]) Tryd.func123 rfl Tryd.ntmps123 (by kernel_rfl) rfl ?_
  refine sgo ?_
  refine wlpure (hix _) fun w1 hf1 => ?_
  refine sgo ?_
  (first | refine fp1 (.inl rfl) rfl rfl ?_ | refine fp2 (.inl rfl) rfl rfl rfl ?_ | refine fp3 (.inl rfl) rfl rfl rfl rfl ?_ | refine fp0 (.inr rfl) rfl ?_ | refine fp0 (.inl rfl) rfl ?_ | refine fp1 (.inr rfl) rfl rfl ?_); refine ⟨?_, by (first | exact Frm.refl _ | assumption | exact Go.Sv.Sep.frm (by assumption) | (refine Frm.trans ?_ (by assumption); first | exact Frm.refl _ | assumption))⟩; (try simp only [realB, rv_true, Nat.reduceBEq, cond_true, cond_false, entG, real_lif, updGL])
def no10R (s : List UInt8) : Bool := s.all fun c => !decide (c.toNat = 10)
theorem contains10_ok (s : List UInt8) (w : World) : PureC Tryd.prog 105 #[str s, str [10]] w (.bool (!no10R s)) := by
  have hix := fun w => sIndex10_ok s w
  have he : decide (Lib.indexByte s 10 ≥ 0) = !no10R s := by
    unfold no10R
    cases h : s.all (fun c => !decide (c.toNat = 10)) with
    | true =>
      have : ∀ x ∈ s, x ≠ (10 : UInt8) := fun x hx e => by
        have := List.all_eq_true.1 h x hx
        rw [e] at this
        cases this
      rw [idx_none this]
      rfl
    | false =>
      have h1 : ¬ Lib.indexByte s 10 = -1 := fun hn => by
        rw [List.all_eq_false] at h
        obtain ⟨x, hx, hx2⟩ := h
        obtain ⟨i, hi, rfl⟩ := List.mem_iff_getElem.1 hx
        have h3 := Lib.indexByte_none hn i
        rw [List.getElem?_eq_getElem hi] at h3
        have h4 : s[i].toNat = 10 := by simpa using hx2
        exact h3 (by rw [show s[i] = 10 from UInt8.toNat_inj.1 h4])
      have h2 := Lib.indexByte_ge s 10
      have : Lib.indexByte s 10 ≥ 0 := by omega
      simp [this]
  refine enter (l := [str s, str [10]]) Tryd.func105 rfl Tryd.ntmps105 (by kernel_rfl) rfl ?_
  refine sgo ?_
  refine wlpure (hix _) fun w1 hf1 => ?_
  refine sgo ?_
  (first | refine fp1 (.inl rfl) rfl rfl ?_ | refine fp2 (.inl rfl) rfl rfl rfl ?_ | refine fp3 (.inl rfl) rfl rfl rfl rfl ?_ | refine fp0 (.inr rfl) rfl ?_ | refine fp0 (.inl rfl) rfl ?_ | refine fp1 (.inr rfl) rfl rfl ?_); refine ⟨?_, by (first | exact Frm.refl _ | assumption | exact Go.Sv.Sep.frm (by assumption) | (refine Frm.trans ?_ (by assumption); first | exact Frm.refl _ | assumption))⟩; (try simp only [realB, rv_true, Nat.reduceBEq, cond_true, cond_false, entG, real_lif, updGL])
  rw [he]
/-! ## read -/
def wrongV : Value := .iface 118 (.agg #[])
theorem wrong_conc : Tryd.prog.concrete 118 = true := by kernel_rfl
def wrongE : List PanicEntry := [{ v := wrongV, recovered := false }]
def wrdL : List (Value × Value) := wrdKV.map fun x => (Value.int .i64 x.1, x.2)
theorem wrdL_mem {y : Value × Value} (h : y ∈ wrdL) : ∃ k : Nat, k < 4 ∧ y = (int k, wrdV k) := by
  unfold wrdL wrdKV at h
  simp only [List.map_cons, List.map_nil, List.mem_cons, List.not_mem_nil, or_false] at h
  rcases h with rfl | rfl | rfl | rfl
  · exact ⟨0, by decide, rfl⟩
  · exact ⟨1, by decide, rfl⟩
  · exact ⟨2, by decide, rfl⟩
  · exact ⟨3, by decide, rfl⟩
theorem wrdL_at {k : Nat} (h : k < 4) : ((int k, wrdV k) : Value × Value) ∈ wrdL := by
  match k, h with
  | 0, _ => exact List.mem_cons_self
  | 1, _ => exact List.mem_cons_of_mem _ List.mem_cons_self
  | 2, _ => exact List.mem_cons_of_mem _ (List.mem_cons_of_mem _ List.mem_cons_self)
  | 3, _ => exact List.mem_cons_of_mem _ (List.mem_cons_of_mem _ (List.mem_cons_of_mem _ List.mem_cons_self))
theorem ew0_inj {i j : Nat} (hi : i < 4) (hj : j < 4) (h : ew0 i = ew0 j) : i = j := by
  match i, hi, j, hj with
  | 0, _, 0, _ => rfl
  | 1, _, 1, _ => rfl
  | 2, _, 2, _ => rfl
  | 3, _, 3, _ => rfl
  | 0, _, 1, _ => exact absurd h (by decide)
  | 0, _, 2, _ => exact absurd h (by decide)
  | 0, _, 3, _ => exact absurd h (by decide)
  | 1, _, 0, _ => exact absurd h (by decide)
  | 1, _, 2, _ => exact absurd h (by decide)
  | 1, _, 3, _ => exact absurd h (by decide)
  | 2, _, 0, _ => exact absurd h (by decide)
  | 2, _, 1, _ => exact absurd h (by decide)
  | 2, _, 3, _ => exact absurd h (by decide)
  | 3, _, 0, _ => exact absurd h (by decide)
  | 3, _, 1, _ => exact absurd h (by decide)
  | 3, _, 2, _ => exact absurd h (by decide)
theorem evWord_some {k : Nat} (hk : k < 4) : evWord (ew0 k) = some k := by
  match k, hk with
  | 0, _ => rfl
  | 1, _ => rfl
  | 2, _ => rfl
  | 3, _ => rfl
theorem evWord_none {w : List UInt8} (h : ∀ k : Nat, k < 4 → ew0 k ≠ w) : evWord w = none := by
  unfold evWord
  rw [List.find?_eq_none]
  intro k hk
  rw [List.mem_range] at hk
  simp [h k hk]
theorem ew1_len (k : Int) : (ew1 k).length ≤ 5 := by
  unfold ew1
  repeat' split
  all_goals decide
def evZ : List Value := [int 0, str [], str [], .slice none 0 0]
set_option maxHeartbeats 4000000 in
theorem evRead_ok (s : List UInt8) (hb : s.length ≤ 16777000) (HS : ∀ k : Nat, k < 4 → ew0 k = (cutB s).1 → ∀ y ∈ linesR (ew1 k ++ 32 :: (cutB s).2), lineS y) (w : World) (hA : Asc w) :
    CallsP Tryd.prog 77 #[str s] w (fun v w' => ∃ e p c, evRead s = some e ∧ v = .agg ⟨e.cells p c⟩ ∧ e.small ∧ Sep w w' [pRow 2 p e.attrs.length c (e.attrs.flatMap At.cells)])
      (fun ch w' => evRead s = none ∧ ch = wrongE ∧ Frm w w') := by
  have hS := Sep.start w
  obtain ⟨R, hR⟩ : ∃ R, evRead s = R := ⟨_, rfl⟩
  rw [hR]
  have hcut := fun w => cut32_ok s (by omega) w
  have hbl : (cutB s).2.length ≤ s.length := by
    rcases index_cutB s with ⟨h1, h2⟩ | ⟨i, hi, h1, h2⟩
    · rw [h2]; simp
    · rw [h2]; simp
  unfold evRead at hR
  generalize (cutB s).1 = word at *
  generalize (cutB s).2 = rest at *
  refine enterP (l := [str s]) Tryd.func77 rfl Tryd.ntmps77 (by kernel_rfl) rfl ?_
  refine sgo ?_
  refine salloc hS fun b2 w1 hS => ?_
  replace hS : Sep w w1 [pOwn b2 evZ] := hS
  refine sgo ?_
  refine wlpure (hcut _) fun w2 hf2 => ?_
  replace hS := hS.grow hf2
  clear hcut
  refine sgo ?_
  refine wlcall (words18_ok w _ _ hS) ?_
  clear hS
  rintro _ w3 ⟨m, rfl, -, hS⟩
  refine wlrangei Tryd.underlying114 (hS.at (c := pIMap m wrdKV) 0 rfl) fun r w4 hr hMI hf4 => ?_
  replace hS : Sep w w4 [pMIt r m wrdL, pOwn b2 evZ] := hS.upd (c := pIMap m wrdKV) (c' := pMIt r m wrdL) 0 rfl ⟨hf4.le, fun x hx hlt => by simp [pMIt] at hx; simp [pIMap]; omega⟩ hMI
  refine sgo ?_
  refine wcloop (X := List (Value × Value)) (fun x => [(2, ptrAt (pb b2) 0), (3, str word), (4, str rest), (19, .pointer (pb r))])
    (fun x wr => (∀ y ∈ x, y ∈ wrdL) ∧ (∀ k : Nat, k < 4 → ew0 k = word → ((int k, wrdV k) : Value × Value) ∈ x) ∧ Sep w wr [pMIt r m x, pOwn b2 evZ]) (fun x => x.length) wrdL ⟨rfl, rfl, rfl, rfl, trivial⟩ ⟨fun _ h => h, fun k hk _ => wrdL_at hk, hS⟩ ?_
  clear hS hMI hf4 hf2
  rintro left wr ρ ⟨hsub, hcov, hS⟩
  refine sgo ?_
  refine wlnextm (hS.at (c := pMIt r m left) 0 rfl) (fun hnil => ?_) (fun kv left' w5 hkv hlen hsub' hcov' hMI hCur hl => ?_)
  · have hn : R = none := by
      rw [← hR, evWord_none fun k hk hw => by have := hcov k hk hw; rw [hnil] at this; cases this]
    refine sgo ?_
    refine wlbuild ?_
    refine wlmki ?_ wrong_conc
    refine wlpan ?_
    repeat (first | refine thn_panic ?_ | refine thl_panic ?_ | refine blk_panic ?_ | refine ngt_panic ?_)
    exact fpPan ⟨hn, rfl, hS.frm⟩ rfl
  replace hS : Sep w w5 [pMIt r m left', pOwn b2 evZ] := hS.upd (c := pMIt r m left) (c' := pMIt r m left') 0 rfl ⟨hl.mono (fun x hx _ => by simp at hx; simp [pMIt, hx]), fun x hx _ => hx⟩ hMI
  obtain ⟨k, hk, rfl⟩ := wrdL_mem (hsub _ hkv)
  refine sgo ?_
  refine wlentry hCur ?_
  clear hCur hMI hl
  refine sgo ?_
  refine salloc hS fun b7 w6 hS => ?_
  refine sgo ?_
  refine ssta (vs := [str (ew0 k), str (ew1 k)]) hS 0 fun w7 hS => ?_
  replace hS : Sep w w7 [pOwn b7 [str (ew0 k), str (ew1 k)], pMIt r m left', pOwn b2 evZ] := hS
  refine sgo ?_
  rcases Classical.em (ew0 k = word) with hw | hw
  · have h1l := ew1_len k
    have HSk := HS k hk hw
    subst hw
    rw [evWord_some hk] at hR
    dsimp only at hR
    refine wcno ?_ (ht := by simp)
    refine sgo ?_
    have e1 : ew1 k ++ [32] ++ rest = ew1 k ++ 32 :: rest := by simp
    rw [e1]
    have hpl : (ew1 (k : Int) ++ 32 :: rest).length ≤ 16777216 := by simp; omega
    refine wlcall (parse_ok (ew1 k ++ 32 :: rest) hpl HSk _) ?_
    generalize parseR (ew1 (k : Int) ++ 32 :: rest) = PR at *
    obtain ⟨ts, n⟩ := PR
    rintro _ w8 ⟨hf8, (⟨hpos, rfl⟩ | ⟨hz, q, cc, ms, rfl, hms, hTL, hsmall, hml⟩)⟩
    · have hn : R = none := by
        rw [← hR]
        obtain ⟨n', rfl⟩ : ∃ n', n = n' + 1 := ⟨n - 1, by have : 0 < n := hpos; omega⟩
        rcases ts with _ | ⟨t, _ | ⟨t2, ts⟩⟩ <;> rfl
      replace hS := hS.grow hf8
      clear hR HS HSk hcov
      refine sgo ?_
      refine wlskipg undef ?_ (hgt := by decide)
      refine wlskipg undef ?_ (hgt := by decide)
      refine wlskipg (.bool true) ?_ (hgt := by decide)
      refine sgo ?_
      refine wlbuild ?_
      refine wlmki ?_ wrong_conc
      refine wlpan ?_
      repeat (first | refine thn_panic ?_ | refine thl_panic ?_ | refine blk_panic ?_ | refine ngt_panic ?_)
      exact fpPan ⟨hn, rfl, hS.frm⟩ rfl
    · obtain rfl : n = 0 := hz
      dsimp only at hms
      subst hms
      clear HS HSk hcov
      rcases ms with _ | ⟨t, _ | ⟨t2, ms⟩⟩
      · have hn : R = none := hR.symm
        replace hS := hS.grow hf8
        simp only [List.length_nil]
        refine sgo ?_
        refine wlskipg undef ?_ (hgt := by decide)
        refine wlskipg undef ?_ (hgt := by decide)
        refine wlskipg (.bool true) ?_ (hgt := by decide)
        refine sgo ?_
        refine wlbuild ?_
        refine wlmki ?_ wrong_conc
        refine wlpan ?_
        repeat (first | refine thn_panic ?_ | refine thl_panic ?_ | refine blk_panic ?_ | refine ngt_panic ?_)
        exact fpPan ⟨hn, rfl, hS.frm⟩ rfl
      · simp only [List.length_cons, List.length_nil]
        have hTk := (hTL.each t (by simp))
        have hrow := hTk.1
        have hlow := hTk.2
        have htsm := hsmall t (by simp)
        have hIq : Im [] w8 q t.cells := by
          have := hTL.toks.im
          simpa using this
        replace hS := hS.push (c := pRow 2 t.p t.t.attrs.length t.c (t.t.attrs.flatMap At.cells)) hf8 hrow (fun x hx => hlow x hx)
        obtain ⟨⟨kd, nm, tx, es, sf, t1, t2, t3⟩, tp, tc⟩ := t
        replace hIq : Im [] w8 q [int kd, str nm, str tx, .slice tp es.length tc, .bool sf, int t1, int t2, int t3] := hIq
        have hSg := hIq.sg
        dsimp only at hR hS htsm
        replace hS : Sep w w8 [pRow 2 tp es.length tc (es.flatMap At.cells), pOwn b7 [str (ew0 k), str (ew1 k)], pMIt r m left', pOwn b2 evZ] := hS
        have hq : ∃ q', q = some q' := hSg.some (by simp)
        clear hTL hTk hrow hlow hsmall
        refine sgo ?_
        cases sf with
        | true =>
          have hn : R = none := by
            rw [← hR]
            exact if_neg (by simp)
          refine wcyes ?_ (ht := by decide)
          refine sgo ?_
          refine wlbuild ?_
          refine wlmki ?_ wrong_conc
          refine wlpan ?_
          repeat (first | refine thn_panic ?_ | refine thl_panic ?_ | refine blk_panic ?_ | refine ngt_panic ?_)
          exact fpPan ⟨hn, rfl, hS.frm⟩ rfl
        | false =>
          refine wcno ?_ (ht := by decide)
          refine sgo ?_
          refine wcdrawx 14 ?_
          refine qgo ?_
          refine qlbuild ?_
          refine QL_nil ?_
          refine qxalloc fun b11 w9 hf9 hb11 ho11 => ?_
          replace hS := hS.push (c := pOwn b11 _) hf9 ho11 (by simpa [pOwn] using hb11)
          refine sgo ?_
          refine ssta (vs := [int k, str nm, str tx, .slice tp es.length tc]) hS 0 fun w10 hS => ?_
          replace hS : Sep w w10 [pOwn b11 [int k, str nm, str tx, .slice tp es.length tc], pRow 2 tp es.length tc (es.flatMap At.cells), pOwn b7 [str (ew0 k), str (ew1 k)], pMIt r m left', pOwn b2 evZ] := hS
          have hes : Ev.small ⟨k, nm, tx, es⟩ := ⟨htsm.name, htsm.text, htsm.attrs, htsm.each⟩
          refine sgo ?_
          refine wlpure (evCheck_ok ⟨k, nm, tx, es⟩ tp tc hes w10 (hA.frm hS.frm) (hS.im 1 rfl)) fun w11 hf11 => ?_
          replace hS := hS.grow hf11
          refine sgo ?_
          refine wlcallgp (vals := [str rest, str [10]]) (fun _ => contains10_ok rest _) fun w12 hf12 => ?_
          replace hS := hS.grow hf12
          refine sgo ?_
          replace hR : (if (false = false ∧ evR ⟨k, nm, tx, es⟩ = true) ∧ no10R rest = true then some (⟨k, nm, tx, es⟩ : Ev) else none) = R := hR
          by_cases hok : evR ⟨k, nm, tx, es⟩ = true ∧ no10R rest = true
          · rw [if_pos ⟨⟨rfl, hok.1⟩, hok.2⟩] at hR
            refine wcno ?_ (ht := by rw [hok.1, hok.2]; decide)
            refine sgo ?_
            refine ssta (vs := [int k, str nm, str tx, .slice tp es.length tc]) hS 4 fun w13 hS => ?_
            refine sgo ?_
            refine fpP (c := ⟨[], none⟩) (.inl rfl) ?_ rfl
            refine fpc (l := [int k, str nm, str tx, .slice tp es.length tc]) (.inl rfl) rfl rfl rfl (hS.own 4 rfl) ?_
            exact ⟨⟨k, nm, tx, es⟩, tp, tc, hR.symm, rfl, hes, ((hS.front 1 rfl).sub (List.Sublist.cons_cons _ (List.nil_sublist _)))⟩
          · rw [if_neg (by rintro ⟨⟨_, h1⟩, h2⟩; exact hok ⟨h1, h2⟩)] at hR
            refine wcyes ?_ (ht := by
              cases he : evR ⟨k, nm, tx, es⟩ with
              | false => simp [pkb]
              | true =>
                cases h1 : no10R rest with
                | false => simp [pkb]
                | true => exact absurd ⟨he, h1⟩ hok)
            refine sgo ?_
            refine wlbuild ?_
            refine wlmki ?_ wrong_conc
            refine wlpan ?_
            repeat (first | refine thn_panic ?_ | refine thl_panic ?_ | refine blk_panic ?_ | refine ngt_panic ?_)
            exact fpPan ⟨hR.symm, rfl, hS.frm⟩ rfl
      · have hn : R = none := hR.symm
        have hrow := hTL.row
        have hSg := hrow.sg
        have h2 : decide ((((t :: t2 :: ms : List TokM).length : Nat) : Int) ≠ 1) = true := by simp only [List.length_cons]; exact decide_eq_true (by omega)
        clear hTL hsmall
        replace hS := hS.grow hf8
        refine sgo ?_
        refine wlskipg undef ?_ (hgt := by rw [h2]; decide)
        refine wlskipg undef ?_ (hgt := by rw [h2]; decide)
        refine wlskipg (.bool true) ?_ (hgt := by rw [h2]; decide)
        refine sgo ?_
        refine wcyes ?_ (ht := by rw [h2]; decide)
        refine sgo ?_
        refine wlbuild ?_
        refine wlmki ?_ wrong_conc
        refine wlpan ?_
        repeat (first | refine thn_panic ?_ | refine thl_panic ?_ | refine blk_panic ?_ | refine ngt_panic ?_)
        exact fpPan ⟨hn, rfl, hS.frm⟩ rfl
  · refine wcyes ?_ (ht := by simp [hw])
    refine sgo ?_
    refine ⟨left', ⟨rfl, rfl, rfl, rfl, trivial⟩, ⟨fun y hy => hsub y (hsub' y hy), fun j hj hw2 => ?_, hS.tail⟩, hlen⟩
    rcases hcov' _ (hcov j hj hw2) with h | h
    · exfalso
      injection h with h1 h2
      injection h1 with h3 h4
      have : j = k := by omega
      subst this
      exact hw hw2
    · exact h
end Go.Proofs.YthgbpgjpnaanlaaDoor

/-
  Regions that draw their order, by a plan, where an operation may panic.
-/
set_option linter.unusedSimpArgs false
set_option linter.unusedVariables false
set_option linter.unnecessarySimpa false
namespace Go.Sv
open Go Go.RowKit
/-- what comes of an operation, whatever it yields, or a panic -/
def comesQ (P : Program) (T : Value → World → Prop) (E : List PanicEntry → World → Prop) : Result Next → Prop
  | .ok (.value u) w' => T u w'
  | .ok .skip w' => T undef w'
  | .ok (.enter f args) w' => Calls P f args w' (fun e w'' => (∃ v, e = .returned v ∧ T v w'') ∨ ∃ ch, e = .panicked ch ∧ E ch w'')
  | .halt (.panic v) w' => E [{ v := v, recovered := false }] w'
  | _ => False
section
variable {P : Program} {n : Nat} {ds : Ctx} {Q : Exit → Ctx → Env → World → Prop} {S : (Nat → Bool) → Env → World → Prop} {σ : Env} {w : World} {m : Nat} {QP : List PanicEntry → Env → World → Prop}
theorem comesQ_of {T : Value → World → Prop} {E : List PanicEntry → World → Prop} : ∀ {r : Result Next}, comes P T r → comesQ P T E r := by
  intro r hr
  unfold comes at hr
  unfold comesQ
  split at hr
  · exact hr
  · exact hr
  · exact Calls.mono hr fun e w h => .inl h
  · exact hr.elim
theorem comesQ_mono {T T' : Value → World → Prop} {E E' : List PanicEntry → World → Prop} (h : ∀ v w, T v w → T' v w) (h2 : ∀ c w, E c w → E' c w) : ∀ {r : Result Next}, comesQ P T E r → comesQ P T' E' r := by
  intro r hr
  unfold comesQ at *
  split at hr
  · exact h _ _ hr
  · exact h _ _ hr
  · refine Calls.mono hr fun e w hh => ?_
    rcases hh with ⟨v, he, hv⟩ | ⟨c, he, hc⟩
    · exact .inl ⟨v, he, h _ _ hv⟩
    · exact .inr ⟨c, he, h2 _ _ hc⟩
  · exact h2 _ _ hr
  · exact hr.elim
def StepQ (P : Program) (ops : Array Oper) (S : (Nat → Bool) → Env → World → Prop) (QP : List PanicEntry → Env → World → Prop) (k : Nat) (o : Oper) : Prop := ∀ L σ w, Up ops o k L → S L σ w →
  (Region.wanted o (yl ops σ) = true ∧ comesQ P (fun v w' => S (on L k) (updO σ o.dst v) w') (fun ch w' => QP ch σ w') ((execOp (evl σ) o).run P w)) ∨ (Region.wanted o (yl ops σ) = false ∧ S (on L k) (updO σ o.dst undef) w)
theorem wpOpIn_of_Q {ops : Array Oper} {dd : List Deferred} {Q' : Exit → Act → World → Prop} {T : Value → World → Prop} {E : List PanicEntry → World → Prop} {K : Act → World → Prop} {i : Nat} {o : Oper} {ro : Option Nat} (hino : operIn n ro.isSome ops o = true) (ho : ops[i]? = some o)
    (h : (Region.wanted o (yl ops σ) = true ∧ comesQ P T E ((execOp (evl σ) o).run P w)) ∨ (Region.wanted o (yl ops σ) = false ∧ T undef w))
    (next : ∀ v w', T v w' → K ((act n dd σ).put o.dst v) w') (hp : ∀ ch w', E ch w' → Q' (.panic ch) (act n dd σ) w') : wpOpIn (fen ro) m P ops Q' i K (act n dd σ) w := by
  unfold wpOpIn
  simp only [ho]
  rw [act_yielded hino]
  rcases h with ⟨hw, hy⟩ | ⟨hw, hy⟩
  · rw [hw, if_pos rfl]
    refine ⟨fun _ _ => fen_fn _ _, ?_⟩
    rw [fen_round, semAt_in hino, act_exec hino]
    generalize (execOp (evl σ) o).run P w = r at *
    cases r with
    | ok x w' =>
      cases x <;> simp only [comesQ] at hy <;> simp only [Oper.uponIn]
      case value u => exact next _ _ hy
      case skip => exact next _ _ hy
      case enter g args =>
        refine ⟨fun h => (by rw [fen_depth] at h; cases h), callsIn_fen (Calls.mono hy ?_)⟩
        rintro e w'' (⟨v, rfl, h2⟩ | ⟨ch, rfl, h2⟩)
        · exact next _ _ h2
        · exact hp _ _ h2
    | halt x w' =>
      cases x <;> simp only [comesQ] at hy <;> simp only [Oper.uponIn]
      exact hp _ _ hy
  · rw [hw, if_neg Bool.false_ne_true]
    exact ⟨fun _ _ => fen_fn _ _, next _ _ hy⟩
theorem wpAnyIn_of_Q {ops : Array Oper} {dd : List Deferred} {Q' : Exit → Act → World → Prop} {ro : Option Nat} (hf : fwdB ops = true) (hin : ops.toList.all (operIn n ro.isSome ops) = true) (hop : ∀ k o, ops[k]? = some o → StepQ P ops S QP k o)
    (hQ : ∀ L σ w, (∀ k, k < ops.size → L k = true) → S L σ w → Q' .normal (act n dd σ) w) (hp : ∀ ch σ w', QP ch σ w' → Q' (.panic ch) (act n dd σ) w') :
    ∀ (f : Nat) (listed : Array Bool) (σ : Env) (w : World), listed.size = ops.size → Clo ops (fl listed) → listed.toList.count false ≤ f → S (fl listed) σ w → wpAnyIn (fen ro) m P .any ops Q' f listed (act n dd σ) w
  | 0, listed, σ, w, hsz, _, hc, hS => by
    have hall : ∀ k, k < ops.size → fl listed k = true := by
      intro k hk
      cases hL : fl listed k with
      | true => rfl
      | false =>
        exfalso
        simp only [fl, Array.getD_eq_getD_getElem?, show k < listed.size from by omega, Array.getElem?_eq_getElem, Option.getD_some] at hL
        have : false ∈ listed.toList := by rw [← hL]; simp
        have := List.count_pos_iff.2 this
        omega
    refine ⟨?_, hQ _ _ _ hall hS⟩
    cases hr : Region.ready .any ops listed with
    | nil => rfl
    | cons i r =>
      exfalso
      have hi : i ∈ Region.ready .any ops listed := by rw [hr]; exact List.mem_cons_self
      obtain ⟨h0, o, ho, _⟩ := mem_ready.1 hi
      have hk : i < ops.size := (Array.getElem?_eq_some_iff.1 ho).1
      have := hall i hk
      simp only [fl, Array.getD_eq_getD_getElem?, show i < listed.size from by omega, Array.getElem?_eq_getElem, Option.getD_some] at this h0
      rw [this] at h0
      cases h0
  | f + 1, listed, σ, w, hsz, hcl, hc, hS => by
    refine ⟨fun hr => hQ _ _ _ (ready_of_fwd hf hsz hr) hS, fun i hi => ?_⟩
    obtain ⟨h0, o, ho, hall⟩ := mem_ready.1 hi
    have hio : i < ops.size := (Array.getElem?_eq_some_iff.1 ho).1
    have hlt : i < listed.size := by omega
    have h0' : listed[i] = false := by simpa [hlt] using h0
    have hup : Up ops o i (fl listed) := by
      refine ⟨by simp [fl, hlt, h0'], ?_, ?_⟩
      · intro j hj
        obtain ⟨e, he, hb, rfl⟩ := bindsOn_iff.1 hj
        exact hall e he hb
      · intro j oj hj hb
        cases hL : fl listed j with
        | false => rfl
        | true =>
          have h1 := hcl j oj hj hL i hb
          have h2 : fl listed i = true := h1
          simp [fl, hlt, h0'] at h2
    have hino : operIn n ro.isSome ops o = true := by
      rw [List.all_eq_true] at hin
      exact hin o (by simpa using Array.mem_of_getElem? ho)
    refine wpOpIn_of_Q hino ho (hop i o ho _ σ w hup hS) (fun v w' hw' => ?_) (fun ch w' h => hp ch σ w' h)
    rw [act_put (operIn_dst hino)]
    refine wpAnyIn_of_Q hf hin hop hQ hp f _ _ _ (by simpa using hsz) (by rw [fl_set hlt]; exact clo_on hcl ho hup.did) ?_ (by rw [fl_set hlt]; exact hw')
    rw [Array.toList_setIfInBounds, List.count_set]
    · have hb : listed.toList[i]'(by simpa using hlt) = false := by simpa using h0'
      have hpos : 0 < listed.toList.count false := List.count_pos_iff.2 (by rw [← hb]; exact List.getElem_mem _)
      rw [hb]; simp only [beq_self_eq_true, if_true]; simp; rw [Array.count_toList] at *; omega
    · simpa using hlt
/-- a region that draws and may panic, within whatever round -/
theorem wcdrawirQ [hm : Mix P] {id : Nat} {ops : List Oper} (S : (Nat → Bool) → Env → World → Prop) (h0 : ∀ wd, Frm w wd → S (fun _ => false) σ wd) (hop : ∀ k o, ops[k]? = some o → StepQ P ops.toArray S QP k o)
    (hend : ∀ L σ' w', (∀ k, k < ops.length → L k = true) → S L σ' w' → Q .normal ds σ' w') (hp : ∀ ch σ' w', QP ch σ' w' → Q (.panic ch) ds σ' w') (hf : fwdB ops.toArray = true := by kernel_rfl) : WC P n ds (.region id ops.toArray true) Q σ w := by
  unfold WC
  intro hin
  have hin' : ops.all (operIn n ds.ro.isSome ops.toArray) = true := by simpa [codeIn] using hin
  refine wpIn_region_any hm.ok ?_
  have e0 : fl (Array.replicate ops.toArray.size false) = fun _ => false := by funext k; exact getD_replicate_false _ _
  refine wpAnyIn_of_Q (S := S) (QP := QP) (n := n) hf (by simpa using hin') (fun k o ho => hop k o (by simpa using ho)) ?_ ?_ _ _ _ _ (by simp) ?_ ?_ ?_
  · intro L σ' w' hL hS
    exact ⟨ds.ds, σ', rfl, hend L σ' w' (by simpa using hL) hS⟩
  · intro ch σ' w' h
    exact ⟨ds.ds, σ', rfl, hp ch σ' w' h⟩
  · rw [e0]; intro j oj _ hL; cases hL
  · simp
  · rw [e0]; exact h0 _ (Frm.drawn (Frm.refl w))
end
section
variable {X : Type}
/-- how operation k goes, by the plan; it may panic -/
def PlanB.RuleQ (p : PlanB X) (P : Program) (QP : List PanicEntry → Env → World → Prop) (w0 : World) (cs : List Plot) (σ0 : Env) (ops : List Oper) (k : Nat) (o : Oper) : Prop :=
  ∀ (a : Nat → PD X) (σ : Env) (w : World) (rest : List Plot), (∀ s, (∀ (j : Nat) (o : Oper), ops[j]? = some o → j ≠ k → bindsOn o k = false → o.dst ≠ some s) → σ s = σ0 s) →
    (∀ (j : Nat) (oj : Oper), bindsOn o j = true → ops[j]? = some oj → (∀ d, oj.dst = some d → σ d = (a j).v) ∧ p.fact j a) → Sep w0 w (p.takes ops.length k a ++ (p.base k ++ (p.seen ops k ++ (cs ++ rest)))) →
    (Region.wanted o (yl ops.toArray σ) = true ∧ comesQ P (fun v w' => ∃ d, v = d.v ∧ p.fact k (setD a k d) ∧ Sep w0 w' (p.pl k d ++ (p.seen ops k ++ (cs ++ rest)))) (fun ch w' => QP ch σ w') ((execOp (evl σ) o).run P w)) ∨
    (Region.wanted o (yl ops.toArray σ) = false ∧ ∃ d, undef = d.v ∧ p.fact k (setD a k d) ∧ Sep w0 w (p.pl k d ++ (p.seen ops k ++ (cs ++ rest))))
def PlanB.RulesQ (p : PlanB X) (P : Program) (QP : List PanicEntry → Env → World → Prop) (w0 : World) (cs : List Plot) (σ0 : Env) (ops : List Oper) : Nat → List Oper → Prop
  | _, [] => True
  | k, o :: l => p.RuleQ P QP w0 cs σ0 ops k o ∧ p.RulesQ P QP w0 cs σ0 ops (k + 1) l
theorem PlanB.rulesQ_get {p : PlanB X} {P : Program} {QP : List PanicEntry → Env → World → Prop} {w0 : World} {cs : List Plot} {σ0 : Env} {ops : List Oper} : ∀ {l : List Oper} {k : Nat}, p.RulesQ P QP w0 cs σ0 ops k l → ∀ j o, l[j]? = some o → p.RuleQ P QP w0 cs σ0 ops (k + j) o
  | [], _, _, j, o, h => by simp at h
  | x :: l, k, hs, 0, o, h => by simp only [List.getElem?_cons_zero, Option.some.injEq] at h; subst h; exact hs.1
  | x :: l, k, hs, j + 1, o, h => by
    have := PlanB.rulesQ_get hs.2 j o (by simpa using h)
    rwa [show k + 1 + j = k + (j + 1) from by omega] at this
/-- a rule of an operation that never panics -/
theorem ruleQ {P : Program} {T : Value → World → Prop} {E : List PanicEntry → World → Prop} {r : Result Next} {A B : Prop} (h : (A ∧ comes P T r) ∨ B) : (A ∧ comesQ P T E r) ∨ B := by
  rcases h with ⟨h1, h2⟩ | h
  · exact .inl ⟨h1, comesQ_of h2⟩
  · exact .inr h
/-- a call that may panic -/
theorem ruleQ_call {P : Program} {T : Value → World → Prop} {E : List PanicEntry → World → Prop} {B : Prop} {σ : Env} {w : World} {ops : Array Oper} {d : Option Tmp} {ty : TypeId} {pos : String} {af : Array Edge} {f : FuncId} [hf : Fnc P f] {args : List Operand} {ats : Array TypeId} {vals : List Value} {R : Value → World → Prop} {S : List PanicEntry → World → Prop}
    (hc : CallsP P f vals.toArray w R S) (hT : ∀ v w', R v w' → T v w') (hE : ∀ ch w', S ch w' → E ch w') (ha : args.map (evl σ) = vals) :
    (Region.wanted (⟨d, .call ⟨.value (.func f), args.toArray, ats⟩, ty, pos, af, none⟩ : Oper) (yl ops σ) = true ∧ comesQ P T E ((execOp (evl σ) ⟨d, .call ⟨.value (.func f), args.toArray, ats⟩, ty, pos, af, none⟩).run P w)) ∨ B := by
  refine .inl ⟨rfl, ?_⟩
  rw [run_call_func]
  have : (args.toArray.map (evl σ)) = vals.toArray := by rw [← ha]; simp
  rw [this]
  refine Calls.mono hc fun e w'' hh => ?_
  rcases hh with ⟨v, he, hv⟩ | ⟨ch, he, hs⟩
  · exact .inl ⟨v, he, hT v w'' hv⟩
  · exact .inr ⟨ch, he, hE ch w'' hs⟩
/-- a region that draws and may panic, by a plan -/
theorem wcplanq {P : Program} [hm : Mix P] {n : Nat} {ds : Ctx} {Q : Exit → Ctx → Env → World → Prop} {σ : Env} {w w0 : World} {id : Nat} {ops : List Oper} {cs b : List Plot} (p : PlanB X) (d0 : PD X) (hS : Sep w0 w (b ++ cs)) (hb : (List.range ops.length).flatMap p.base = b)
    (hF : ∀ (j : Nat) (oj : Oper) (a a' : Nat → PD X), ops[j]? = some oj → a j = a' j → (∀ i, bindsOn oj i = true → a i = a' i) → p.fact j a → p.fact j a')
    (hR : p.RulesQ P (fun ch σ' w' => Q (.panic ch) ds σ' w') w0 cs σ ops 0 ops)
    (hend : ∀ (a : Nat → PD X) σ' w', (∀ s, (∀ (k : Nat) (o : Oper), ops[k]? = some o → o.dst ≠ some s) → σ' s = σ s) → (∀ (k : Nat) (o : Oper), ops[k]? = some o → (∀ d, o.dst = some d → σ' d = (a k).v) ∧ p.fact k a) →
      Sep w0 w' (((List.range ops.length).filter fun j => (p.con j).isNone).flatMap (fun j => p.pl j (a j)) ++ cs) → Q .normal ds σ' w')
    (hB : planB p.con ops = true := by kernel_rfl) (hf : fwdB ops.toArray = true := by kernel_rfl) : WC P n ds (.region id ops.toArray true) Q σ w := by
  refine wcdrawirQ (QP := fun ch σ' w' => Q (.panic ch) ds σ' w') (p.S w0 cs σ ops) (fun wd hwd => ⟨fun _ _ => rfl, fun _ => d0, fun _ _ _ h => absurd h Bool.false_ne_true, ?_⟩) (fun k o hk => ?_) ?_ (fun _ _ _ h => h) hf
  · have e : p.mem ops.length (fun _ => false) (fun _ => d0) = [] := by
      unfold PlanB.mem
      rw [List.filter_eq_nil_iff.2 (by intro j _; simp [PlanB.live])]
      rfl
    have e2 : p.bmem ops.length (fun _ => false) = b := by
      rw [← hb]; unfold PlanB.bmem
      rw [List.filter_eq_self.2 (by intro j _; rfl)]
    rw [e, e2]
    exact hS.grow hwd
  · intro L σ' w' hu hS0
    have hr := PlanB.rulesQ_get hR k o hk
    rw [Nat.zero_add] at hr
    obtain ⟨a, rest, h1, h2, h3, hnew⟩ := planb_core hB hF hk hu hS0
    rcases hr a σ' w' rest h1 h2 h3 with ⟨h1, h2⟩ | ⟨h1, d, h2, h3, h4⟩
    · refine .inl ⟨h1, comesQ_mono (fun v w' => ?_) (fun _ _ h => h) h2⟩
      rintro ⟨d, rfl, hf, hS'⟩
      exact hnew d w' hf hS'
    · refine .inr ⟨h1, ?_⟩
      rw [h2]
      exact hnew d w' h3 h4
  · rintro L σ' w' hL ⟨hσ, a, hA, hS'⟩
    refine hend a σ' w' (fun s hs => hσ s fun k o hk _ => hs k o hk) (fun k o hk => hA k o hk (hL k (List.getElem?_eq_some_iff.1 hk).1)) ?_
    have e2 : p.bmem ops.length L = [] := by
      unfold PlanB.bmem
      rw [List.filter_eq_nil_iff.2 (by intro j hj; simp [hL j (List.mem_range.1 hj)])]
      rfl
    rw [e2] at hS'
    refine hS'.perm (List.Perm.append_right _ (List.Perm.of_eq ?_))
    unfold PlanB.mem
    congr 1
    refine List.filter_congr fun j hj => ?_
    have h1 := hL j (List.mem_range.1 hj)
    simp only [PlanB.live, h1, Bool.true_and]
    cases hc : p.con j with
    | none => rfl
    | some c =>
      have := List.all_eq_true.1 hB j hj
      rw [Bool.and_eq_true, hc] at this
      have h2 := this.1
      simp only [Bool.and_eq_true, decide_eq_true_eq] at h2
      simp [hL c h2.1]
end
end Go.Sv

/-
  Package event: Parse.
-/
set_option linter.unusedSimpArgs false
set_option linter.unusedVariables false
set_option linter.unnecessarySimpa false
namespace Go.Sv
open Go Go.RowKit
section
variable {P : Program} {n : Nat} {w : World}
/-- three results: cell, slot, cell, behind deferred functions -/
theorem leave_ctc {fn : Func} {R : Value → World → Prop} {dl : List Deferred} {σ : Env} {t1 t2 t3 : Nat} {y1 y3 : TypeId} {b1 b3 : Nat} {v1 v3 : Value} (hr : fn.results = #[.cell t1 y1, .tmp t2, .cell t3 y3])
    (ht : (Nat.blt t1 n && Nat.blt t2 n && Nat.blt t3 n) = true) (hp : σ t1 = .pointer (pb b1) ∧ σ t3 = .pointer (pb b3)) (o1 : Own w b1 [v1]) (o3 : Own w b3 [v3])
    [h1 : Agg P y1 false] [h3 : Agg P y3 false] (h : R (.tuple #[v1, σ t2, v3]) w) :
    LeavesInM Fence.wide 0 P fn (act n dl σ).tmps (fun e w' => ∃ v, e = .returned v ∧ R v w') [] .returning w := by
  simp only [Bool.and_eq_true] at ht
  obtain ⟨⟨ht1, ht2⟩, ht3⟩ := ht
  obtain ⟨p1, p3⟩ := hp
  obtain ⟨T1, o1⟩ := o1
  obtain ⟨T3, o3⟩ := o3
  have g : ∀ {t : Nat} {v : Value}, Nat.blt t n = true → σ t = v → (act n dl σ).tmps[t]?.getD undef = v := fun {t v} ht hp => by
    have : (act n dl σ).tmps.getD t undef = v := by rw [act_getD ht]; exact hp
    simpa using this
  have c1 : w.cell? ⟨b1, 0, none⟩ = some v1 := by rw [cell_of_row w b1 0 _ _ _ o1]; rfl
  have c3 : w.cell? ⟨b3, 0, none⟩ = some v3 := by rw [cell_of_row w b3 0 _ _ _ o3]; rfl
  refine ⟨.tuple #[v1, σ t2, v3], ?_, _, rfl, h⟩
  simp [results, hr, g ht1 p1, g ht2 (rfl : σ t2 = σ t2), g ht3 p3, asAddr, pb, loadVar, run_isAgg (P := P) (t := y1), run_isAgg (P := P) (t := y3), c1, c3]
end
end Go.Sv
namespace Go.Proofs.YthgbpgjpnaanlaaDoor
open Go Go.Sv Go.RowKit

set_option maxHeartbeats 1000000 in
/-- the deferred function of Parse, where nothing has panicked -/
theorem parse1_back (bl bc : Nat) (w : World) (R : Ending → FrameMode → World → Prop) (h : R (.returned (.tuple #[])) .returning w) :
    CallsDIn Fence.wide 0 Tryd.prog 74 #[ptrAt (pb bl) 0, ptrAt (pb bc) 0] .returning w R := by
  refine enterDR (l := [ptrAt (pb bl) 0, ptrAt (pb bc) 0]) (v := .nilIface) Tryd.func74 rfl Tryd.ntmps74 (by kernel_rfl) rfl rfl rfl rfl .returning ?_
  refine sgo ?_
  refine wl ?_ (y_inn0 Tryd.underlying20 rfl rfl)
  refine sgo ?_
  exact fpD0 (.inr rfl) rfl h
set_option maxHeartbeats 1000000 in
/-- .. and where it has -/
theorem parse1_caught (bl bc : Nat) (x : Value) (w0 w : World) (cs : List Plot) (hS : Sep w0 w (pOwn bl [x] :: pOwn bc [int 0] :: cs)) (R : Ending → FrameMode → World → Prop)
    (h : ∀ w', Sep w0 w' (pOwn bl [.slice none 0 0] :: pOwn bc [int 180] :: cs) → R (.returned (.tuple #[])) (.panicking [{ v := wrongV, recovered := true }]) w') :
    CallsDIn Fence.wide 0 Tryd.prog 74 #[ptrAt (pb bl) 0, ptrAt (pb bc) 0] (.panicking wrongE) w R := by
  refine enterDR (l := [ptrAt (pb bl) 0, ptrAt (pb bc) 0]) (v := wrongV) Tryd.func74 rfl Tryd.ntmps74 (by kernel_rfl) rfl rfl rfl rfl (.panicking wrongV []) ?_
  refine sgo ?_
  refine wl ?_ (y_inn1 Tryd.underlying20 rfl rfl)
  refine sgo ?_
  refine wl ?_ (y_tas Tryd.underlying118 rfl rfl)
  refine sgo ?_
  refine salloc hS fun b3 w1 hS => ?_
  refine sgo ?_
  refine ssta (vs := []) hS 0 fun w2 hS => ?_
  refine sgo ?_
  refine sst_slice hS 1 fun w3 hS => ?_
  refine sgo ?_
  refine sst_int hS 2 fun w4 hS => ?_
  refine sgo ?_
  refine fpD0 (.inr rfl) rfl (h _ hS.tail)
/-! ## Parse -/
/-- what is read of a line of events is small -/
def lineE (y : List UInt8) : Prop := ∀ k : Nat, k < 4 → ew0 k = (cutB y).1 → ∀ z ∈ linesR (ew1 k ++ 32 :: (cutB y).2), lineS z
theorem trimSuf_ok (s p : List UInt8) (hb : s.length ≤ 1073741824) (w : World) : PureC Tryd.prog 76 #[str s, str p] w (str (Lib.trimSuffix s p)) := by
  refine Calls.mono (Tryd.strings_TrimSuffix ⟨s.toArray⟩ ⟨p.toArray⟩ w (by rw [ByteArray.size]; simp; omega)) ?_
  rintro e w' ⟨rfl, rfl⟩
  exact ⟨_, rfl, rfl, Frm.refl _⟩
theorem evPF_drop {n : Nat} {ls : List (List UInt8)} {i : Nat} {x : List UInt8} {acc : List Ev} (h : ls[i]? = some x) : evPF n (ls.drop i) acc = match evRead x with | none => ([], n) | some e => evPF (n + 1) (ls.drop (i + 1)) (acc ++ [e]) := by
  obtain ⟨hi, rfl⟩ := List.getElem?_eq_some_iff.1 h
  rw [List.drop_eq_getElem_cons hi, evPF]
  rfl
theorem linesR_len (l : List UInt8) : (linesR l).length ≤ l.length := by
  have key : ∀ (n : Nat) (l : List UInt8), l.length ≤ n → (linesR l).length ≤ l.length := by
    intro n
    induction n with
    | zero =>
      intro l hn
      rw [List.eq_nil_of_length_eq_zero (by omega : l.length = 0)]
      exact Nat.le_refl _
    | succ n ih =>
      intro l hn
      by_cases h : l = []
      · subst h; exact Nat.le_refl _
      · rw [lines_cut h, List.length_cons]
        have h1 := (cutT_len l).2.2 h
        have h2 := ih (cutN l).2.1 (by omega)
        omega
  exact key l.length l (Nat.le_refl _)
theorem lines_size {s : List UInt8} : ∀ y ∈ linesR s, y.length ≤ s.length := by
  have key : ∀ (n : Nat) (l : List UInt8), l.length ≤ n → ∀ y ∈ linesR l, y.length ≤ l.length := by
    intro n
    induction n with
    | zero =>
      intro l hn y hy
      rw [List.eq_nil_of_length_eq_zero (by omega : l.length = 0)] at hy
      cases hy
    | succ n ih =>
      intro l hn y hy
      by_cases h : l = []
      · subst h; cases hy
      · rw [lines_cut h] at hy
        obtain ⟨c1, c2, c3⟩ := cutT_len l
        have h1 := c3 h
        rcases List.mem_cons.1 hy with rfl | hy
        · exact c1
        · have h2 := ih (cutN l).2.1 (by omega) y hy
          omega
  exact key s.length s (Nat.le_refl _)
def psP (b2 : Nat) (q : Option Addr) (cc : Nat) (ns : List EvM) (x : List UInt8) : PlanB (Ev × Option Addr × Nat) where
  pl k d := match k with
    | 2 => [pRow 2 d.x.2.1 d.x.1.attrs.length d.x.2.2 (d.x.1.attrs.flatMap At.cells)]
    | 3 => [pOwn d.b (d.x.1.cells d.x.2.1 d.x.2.2)]
    | 4 => [pRow 4 d.p (ns.length + 1) d.c (ns.flatMap EvM.cells ++ d.x.1.cells d.x.2.1 d.x.2.2)]
    | 5 => [pOwn b2 [.slice d.p (ns.length + 1) d.c]]
    | _ => []
  con k := match k with
    | 3 => some 4
    | _ => none
  base k := match k with
    | 4 => [pRow 4 q ns.length cc (ns.flatMap EvM.cells)]
    | 5 => [pOwn b2 [.slice q ns.length cc]]
    | _ => []
  fact k a := match k with
    | 0 => (a 0).v = .slice q ns.length cc
    | 1 => (a 1).v = str x
    | 2 => (a 2).v = .agg ⟨(a 2).x.1.cells (a 2).x.2.1 (a 2).x.2.2⟩ ∧ evRead x = some (a 2).x.1 ∧ (a 2).x.1.small
    | 3 => (a 3).v = .slice (pb (a 3).b) 1 1 ∧ (a 3).x = (a 2).x
    | 4 => (a 4).v = .slice (a 4).p (ns.length + 1) (a 4).c ∧ (a 4).x = (a 3).x
    | 5 => (a 5).p = (a 4).p ∧ (a 5).c = (a 4).c
    | _ => True
set_option maxHeartbeats 4000000 in
theorem evParse_ok (s : List UInt8) (hb : s.length ≤ 16000000) (HS : ∀ y ∈ linesR s, lineE y) (w : World) (hA : Asc w) (hM : MaxW w) :
    CallsR Tryd.prog 42 #[str s] w fun v w' =>
      (0 < (evPR s).2 ∧ v = .tuple #[.slice none 0 0, int (evPR s).2, int 180] ∧ Frm w w') ∨
      ((evPR s).2 = 0 ∧ ∃ q cc ns, v = .tuple #[.slice q ns.length cc, int 0, int 0] ∧ evs ns = (evPR s).1 ∧ (∀ m ∈ ns, m.e.small) ∧ ns.length ≤ s.length ∧ Sep w w' [pRow 4 q ns.length cc (ns.flatMap EvM.cells), pMany (ns.map EvM.row)]) := by
  obtain ⟨R, hR⟩ : ∃ R, evPR s = R := ⟨_, rfl⟩
  rw [hR]
  unfold evPR at hR
  have hS := Sep.start w
  have htl := trs_len s 10
  have hll := linesR_len s
  have hlz := lines_size (s := s)
  refine enter (l := [str s]) Tryd.func42 rfl Tryd.ntmps42 (by kernel_rfl) rfl ?_
  refine sgo ?_
  refine salloc hS fun b2 w1 hS => ?_
  refine sgo ?_
  refine salloc hS fun b4 w2 hS => ?_
  replace hS : Sep w w2 [pOwn b4 [int 0], pOwn b2 [.slice none 0 0]] := hS
  refine sgo ?_
  by_cases h0 : s = []
  · subst h0
    have hRR : R = ([], 0) := hR.symm
    refine wcyes ?_ (ht := by rfl)
    refine sgo ?_
    refine sst_slice hS 1 fun w3 hS => ?_
    refine sgo ?_
    refine sst_int hS 0 fun w4 hS => ?_
    refine sgo ?_
    refine fp_leave (.inl rfl) ?_
    refine leave_ctc (b1 := b2) (b3 := b4) rfl rfl ⟨rfl, rfl⟩ (hS.own 1 rfl) (hS.own 0 rfl) ?_
    refine .inr ⟨by rw [hRR], none, 0, [], rfl, by rw [hRR]; rfl, by simp, Nat.le_refl _, ?_⟩
    exact (hS.empty.zero).nilRow 4
  refine wcno ?_ (ht := by simp [h0])
  refine sgo ?_
  refine wldefer (cap := [ptrAt (pb b2) 0, ptrAt (pb b4) 0]) ?_
  refine sgo ?_
  refine wlpure (trimSuf_ok s [10] (by omega) _) fun w3 hf3 => ?_
  replace hS := hS.grow hf3
  refine wlcall (spSplit_ok (Lib.trimSuffix s [10]) 10 (by omega) _ (hM.frm hS.frm)) ?_
  rintro _ w4 ⟨bs, rfl, hS4⟩
  replace hS := hS.seq hS4
  clear hS4 hf3
  have hsl := spl_lines s.length s (Nat.le_refl _) h0
  rw [hsl] at hS ⊢
  clear hsl h0 htl
  generalize linesR s = L at *
  have hLn := strs_len L
  replace hS : Sep w w4 [pRow 4 none 0 0 [], pOwn b2 [.slice none 0 0], pMany [], pOwn b4 [int 0], pOwn bs (strs L)] := by
    have h := (hS.zero).nilRow 4
    have h2 : Sep w w4 [pRow 4 none 0 0 [], pMany [], pOwn bs (strs L), pOwn b4 [int 0], pOwn b2 [.slice none 0 0]] := h
    exact ((((h2.front 2 rfl).front 3 rfl).front 3 rfl).front 4 rfl).front 4 rfl
  refine sgo ?_
  refine wcloop (X := Nat × Option Addr × Nat × List EvM) (fun x => [(2, ptrAt (pb b2) 0), (3, int x.1), (4, ptrAt (pb b4) 0), (12, .slice (pb bs) L.length L.length), (13, int L.length), (14, int x.1)])
    (fun x wr => x.1 ≤ L.length ∧ evPF (x.1 + 1) (L.drop x.1) (evs x.2.2.2) = R ∧ x.2.2.2.length = x.1 ∧ (∀ m ∈ x.2.2.2, m.e.small) ∧
      Sep w wr [pRow 4 x.2.1 x.2.2.2.length x.2.2.1 (x.2.2.2.flatMap EvM.cells), pOwn b2 [.slice x.2.1 x.2.2.2.length x.2.2.1], pMany (x.2.2.2.map EvM.row), pOwn b4 [int 0], pOwn bs (strs L)]) (fun x => L.length - x.1) (0, none, 0, []) ⟨rfl, rfl, rfl, rfl, rfl, rfl, trivial⟩ ⟨Nat.zero_le _, hR, rfl, by simp, hS⟩ ?_
  clear hS hR
  rintro ⟨i, q, cc, ns⟩ wr ρ ⟨hil, hR, hnl, hsm, hS⟩
  dsimp only at hil hR hnl hsm hS ⊢
  refine sgo ?_
  (show WC _ _ _ _ _ _ _; first | refine WC_dec rfl (fun hc => ?_) (fun hc => ?_) | refine WC_cond rfl (fun hc => ?_) (fun hc => ?_))
  · have hlt : i < L.length := by omega
    clear hc
    obtain ⟨x, hx⟩ : ∃ x, L[i]? = some x := ⟨_, List.getElem?_eq_getElem hlt⟩
    have hxm := List.mem_of_getElem? hx
    have hxl := hlz x hxm
    have HSx := HS x hxm
    have hxv := strs_at hx
    rw [evPF_drop hx] at hR
    refine sgo ?_
    refine wcplanq (b := [pRow 4 q ns.length cc (ns.flatMap EvM.cells)] ++ [pOwn b2 [.slice q ns.length cc]]) (psP b2 q cc ns x) ⟨.nilIface, none, 0, 0, (⟨0, [], [], []⟩, none, 0)⟩ hS rfl (fun j oj a a' hj he hd h => ?_) ⟨?_, ?_, ?_, ?_, ?_, ?_, trivial⟩ ?_
    · have hjl : j < 6 := (List.getElem?_eq_some_iff.1 hj).1
      match j, hjl with
      | 0, _ | 1, _ | 2, _ => first | (simp only [psP] at h ⊢; rw [← he]; exact h) | exact h
      | 3, _ => simp only [psP] at h ⊢; rw [← he, ← hd 2 (by cases hj; rfl)]; exact h
      | 4, _ => simp only [psP] at h ⊢; rw [← he, ← hd 3 (by cases hj; rfl)]; exact h
      | 5, _ => simp only [psP] at h ⊢; rw [← he, ← hd 4 (by cases hj; rfl)]; exact h
    · intro a σ' w' rest hσ hdep hS'   -- 0: load; pieces: sees 4, sees 5 ..
      refine ruleQ ?_
      have e2 : σ' 2 = ptrAt (pb b2) 0 := (hσ 2 (notDstB rfl)).trans rfl
      exact rule_y (y_load e2 (Sep.sgv hS' 1 rfl) rfl) ⟨⟨.slice q ns.length cc, none, 0, 0, (⟨0, [], [], []⟩, none, 0)⟩, rfl, rfl, hS'⟩
    · intro a σ' w' rest hσ hdep hS'   -- 1: move; pieces: sees 5 ..
      refine ruleQ ?_
      have e6 : σ' 6 = str x := (hσ 6 (notDstB rfl)).trans rfl
      exact rule_e [(6, _)] ⟨e6, trivial⟩ ⟨⟨str x, none, 0, 0, (⟨0, [], [], []⟩, none, 0)⟩, rfl, rfl, hS'⟩
    · intro a σ' w' rest hσ hdep hS'   -- 2: call; pieces: sees 4, sees 5 ..
      have f1 := (hdep 1 _ rfl rfl).2
      have e21 := ((hdep 1 _ rfl rfl).1 21 rfl).trans f1
      refine ruleQ_call (vals := [str x]) (evRead_ok x (by omega) HSx w' (hA.frm hS'.frm)) (fun v w2 hR2 => ?_) (fun ch w2 hE => ?_) (am1 e21)
      · obtain ⟨e, p, c, he, rfl, hse, hS2⟩ := hR2
        exact ⟨⟨.agg ⟨e.cells p c⟩, none, 0, 0, (e, p, c)⟩, rfl, ⟨rfl, he, hse⟩, hS'.seq hS2⟩
      · obtain ⟨hn, rfl, hf⟩ := hE
        replace hS' := hS'.grow hf
        rw [hn] at hR
        rw [frameOf (σ := σ') [(2, ptrAt (pb b2) 0), (3, int ((i : Int) + 1)), (4, ptrAt (pb b4) 0)] ⟨(hσ 2 (notDstB rfl)).trans rfl, (hσ 3 (notDstB rfl)).trans rfl, (hσ 4 (notDstB rfl)).trans rfl, trivial⟩]
        have h5 : Sep w w2 (pOwn b2 [.slice q ns.length cc] :: pOwn b4 [int 0] :: (pRow 4 q ns.length cc (ns.flatMap EvM.cells) :: pMany (ns.map EvM.row) :: pOwn bs (strs L) :: rest)) := by
          have h : Sep w w2 (pRow 4 q ns.length cc (ns.flatMap EvM.cells) :: pOwn b2 [.slice q ns.length cc] :: pMany (ns.map EvM.row) :: pOwn b4 [int 0] :: pOwn bs (strs L) :: rest) := hS'
          exact (h.front 3 rfl).front 2 rfl
        repeat (first | refine thn_panic ?_ | refine thl_panic ?_ | refine blk_panic ?_ | refine ngt_panic ?_)
        refine fp_panic ?_
        refine leave_fv (cap := [ptrAt (pb b2) 0, ptrAt (pb b4) 0]) (by simp [wrongE]) ?_
        refine parse1_caught b2 b4 (.slice q ns.length cc) w w2 _ h5 _ fun w5 hS5 => ?_
        refine leave_ctc (b1 := b2) (b3 := b4) rfl rfl ⟨rfl, rfl⟩ (hS5.own 0 rfl) (hS5.own 1 rfl) ?_
        rw [← hR]
        exact .inl ⟨Nat.succ_pos i, rfl, hS5.frm⟩
    · intro a σ' w' rest hσ hdep hS'   -- 3: buildSlice; pieces: sees 4, sees 5 ..
      refine ruleQ ?_
      have f2 := (hdep 2 _ rfl rfl).2
      have e22 := ((hdep 2 _ rfl rfl).1 22 rfl).trans f2.1
      obtain ⟨b, w2, hy, hS2⟩ := y_bs1 (P := Tryd.prog) (t := 25) (d := some 23) (x := .tmp 22) hS' e22 rfl rfl (Nat.le_of_ble_eq_true rfl) (Nat.le_of_ble_eq_true rfl)
      exact rule_y hy ⟨⟨.slice (pb b) 1 1, none, 0, b, (a 2).x⟩, rfl, ⟨rfl, rfl⟩, hS2⟩
    · intro a σ' w' rest hσ hdep hS'   -- 4: call; pieces: takes 3, base 4, sees 5 ..
      refine ruleQ ?_
      have f0 := (hdep 0 _ rfl rfl).2
      have e20 := ((hdep 0 _ rfl rfl).1 20 rfl).trans f0
      have f3 := (hdep 3 _ rfl rfl).2
      have e23 := ((hdep 3 _ rfl rfl).1 23 rfl).trans f3.1
      obtain ⟨p2, c2, w2, hy, hS2⟩ := y_app (P := Tryd.prog) (t := 25) (t' := 25) (ty := 25) (d := some 24) (x := .tmp 20) (y := .tmp 23) (n := 1) hS' 1 (hS'.own 0 rfl).sg rfl e20 e23 rfl (ev_one _ _ _) rfl (by decide) (by omega)
      exact rule_y hy ⟨⟨.slice p2 (ns.length + 1) c2, p2, c2, 0, (a 3).x⟩, rfl, ⟨rfl, rfl⟩, hS2.drop 0 rfl⟩
    · intro a σ' w' rest hσ hdep hS'   -- 5: store; pieces: base 5 ..
      refine ruleQ ?_
      have e2 : σ' 2 = ptrAt (pb b2) 0 := (hσ 2 (notDstB rfl)).trans rfl
      have f4 := (hdep 4 _ rfl rfl).2
      have e24 := ((hdep 4 _ rfl rfl).1 24 rfl).trans f4.1
      obtain ⟨w2, hy, hS2⟩ := y_sst (P := Tryd.prog) (t := 25) (x := .tmp 2) (y := .tmp 24) hS' 0 rfl e2 e24 rfl (Nat.le_of_ble_eq_true rfl) (by simp [Go.Value.cells, Go.Value.oneCell'])
      exact rule_y hy ⟨⟨undef, (a 4).p, (a 4).c, 0, (a 4).x⟩, rfl, ⟨rfl, rfl⟩, hS2⟩
    · intro a σ' w' hσ hA' hS'
      have h2 := (hA' 2 _ rfl).2
      have h3 := (hA' 3 _ rfl).2
      have h4 := (hA' 4 _ rfl).2
      have h5 := (hA' 5 _ rfl).2
      rw [frameOf (σ := σ') [(2, ptrAt (pb b2) 0), (3, int ((i : Int) + 1)), (4, ptrAt (pb b4) 0), (12, .slice (pb bs) L.length L.length), (13, int L.length), (14, int i)]
        ⟨(hσ 2 (notDst rfl)).trans rfl, (hσ 3 (notDst rfl)).trans rfl, (hσ 4 (notDst rfl)).trans rfl, (hσ 12 (notDst rfl)).trans rfl, (hσ 13 (notDst rfl)).trans rfl, (hσ 14 (notDst rfl)).trans rfl, trivial⟩]
      replace hS : Sep w w' [pRow 2 (a 2).x.2.1 (a 2).x.1.attrs.length (a 2).x.2.2 ((a 2).x.1.attrs.flatMap At.cells), pRow 4 (a 4).p (ns.length + 1) (a 4).c (ns.flatMap EvM.cells ++ (a 4).x.1.cells (a 4).x.2.1 (a 4).x.2.2), pOwn b2 [.slice (a 5).p (ns.length + 1) (a 5).c], pMany (ns.map EvM.row), pOwn b4 [int 0], pOwn bs (strs L)] := hS'
      rw [h4.2, h3.2, h5.1, h5.2] at hS
      obtain ⟨-, h2a, h2b⟩ := h2
      generalize (a 4).p = q' at *
      generalize (a 4).c = c' at *
      generalize (a 2).x = X at *
      obtain ⟨e, p2, c2⟩ := X
      dsimp only at h2a h2b hS
      clear hA' hS' hσ h3 h4 h5
      rw [h2a] at hR
      dsimp only at hR
      have hS2 : Sep w w' (pMany ((ns ++ [(⟨e, p2, c2⟩ : EvM)]).map EvM.row) :: [pRow 4 q' (ns.length + 1) c' (ns.flatMap EvM.cells ++ e.cells p2 c2), pOwn b2 [.slice q' (ns.length + 1) c'], pOwn b4 [int 0], pOwn bs (strs L)]) := by
        have h := ((hS.front 3 rfl).front 1 rfl).more
        rw [List.map_append]
        exact h
      have hS3 := (hS2.front 2 rfl).front 2 rfl
      have hnl2 : ns.length + 1 = (ns ++ [(⟨e, p2, c2⟩ : EvM)]).length := by rw [List.length_append]; rfl
      rw [hnl2, show ns.flatMap EvM.cells ++ e.cells p2 c2 = (ns ++ [(⟨e, p2, c2⟩ : EvM)]).flatMap EvM.cells from evs_flat ns ⟨e, p2, c2⟩] at hS3
      clear hS hS2
      refine sgo ?_
      refine ⟨(i + 1, q', c', ns ++ [⟨e, p2, c2⟩]), ⟨rfl, rfl, rfl, rfl, rfl, rfl, trivial⟩, ⟨hlt, ?_, ?_, fun m hm => ?_, hS3⟩, (by (try dsimp only); omega)⟩
      · dsimp only; rw [evs_snoc]; exact hR
      · dsimp only; rw [List.length_append, hnl]; rfl
      · rcases List.mem_append.1 hm with hm | hm
        · exact hsm m hm
        · rw [List.mem_singleton.1 hm]; exact h2b
  · obtain rfl : i = L.length := by omega
    rw [List.drop_length, evPF] at hR
    refine sgo ?_
    refine sst_slice hS 1 fun w5 hS => ?_
    refine sgo ?_
    refine sst_int hS 3 fun w6 hS => ?_
    refine sgo ?_
    refine fp_leave (.inl rfl) ?_
    refine leave_fv (cap := [ptrAt (pb b2) 0, ptrAt (pb b4) 0]) (by simp) ?_
    refine parse1_back b2 b4 _ _ ?_
    refine leave_ctc (b1 := b2) (b3 := b4) rfl rfl ⟨rfl, rfl⟩ (hS.own 1 rfl) (hS.own 3 rfl) ?_
    rw [← hR]
    refine .inr ⟨rfl, q, cc, ns, rfl, rfl, hsm, by omega, ?_⟩
    exact ((hS.drop 4 rfl).drop 3 rfl).drop 1 rfl
end Go.Proofs.YthgbpgjpnaanlaaDoor

/-
  strings.Join (and Grow of a builder that has not been written).
-/
set_option linter.unusedSimpArgs false
set_option linter.unusedVariables false
set_option linter.unnecessarySimpa false
namespace Go.Sv
open Go Go.RowKit
section
variable {P : Program} {T E : TypeId} {w w' : World} {b : Nat} {q : Option Addr} {c : Nat} {s : List UInt8}
end
end Go.Sv
namespace Go.Proofs.YthgbpgjpnaanlaaDoor
open Go Go.Sv Go.RowKit

/-- texts, put together -/
def joinR (sep : List UInt8) : List (List UInt8) → List UInt8
  | [] => []
  | x :: r => x ++ r.flatMap fun y => sep ++ y
def tlen (l : List (List UInt8)) : Nat := (l.map List.length).sum
end Go.Proofs.YthgbpgjpnaanlaaDoor

/-
  Package event: Paths; sieveref18: Paths.
-/
set_option linter.unusedSimpArgs false
set_option linter.unusedVariables false
set_option linter.unnecessarySimpa false
namespace Go.Sv
open Go Go.RowKit
section
variable {P : Program} {w w' w0 : World} {t tx t' ty e e' : TypeId} {z : Value} {size bytes n m c c' k : Nat} {p q : Option Addr} {xs news : List Value} {x y : Operand} {cs : List Plot} {σ : Env} {d : Option Tmp} {pos : String} {af : Array Edge}
end
end Go.Sv
namespace Go.Proofs.YthgbpgjpnaanlaaDoor
open Go Go.Sv Go.RowKit

/-- the way of an element in others -/
def pthR (st : List (List UInt8)) (x : List UInt8) : List UInt8 := (st.flatMap fun n => n ++ [47]) ++ x
def nmw (st : List (List UInt8)) : Nat := (st.map fun n => n.length + 1).sum
/-- where elements stand, of the first i -/
def pathsI (ms : List EvM) : Nat → List (List UInt8)
  | 0 => []
  | i + 1 => pathsI ms i ++ (match ms[i]? with | some m => if m.e.kind = 1 ∨ m.e.kind = 3 then [pthR (lkI ms i).stack m.e.name] else [] | none => [])
def pthP (b7 b9 : Nat) (q q6 : Option Addr) (cc c6 : Nat) (st out : List (List UInt8)) (nm : List UInt8) : PlanB Unit where
  pl k d := match k with
    | 12 => [pOwn d.b [str nm]]
    | 13 => [pRow 1 d.p (st.length + 1) d.c (strs st ++ [str nm])]
    | 15 => [pOwn d.b [str (pthR st nm)]]
    | 16 => [pRow 1 d.p (out.length + 1) d.c (strs out ++ [str (pthR st nm)])]
    | _ => []
  con k := match k with
    | 12 => some 13
    | 13 => some 14
    | 15 => some 16
    | _ => none
  base k := match k with
    | 16 => [pRow 1 q6 out.length c6 (strs out)]
    | _ => []
  fact k a := match k with
    | 0 => (a 0).v = .slice q6 out.length c6
    | 1 => (a 1).v = ptrAt (pb b7) 0
    | 2 => (a 2).v = .slice q st.length cc
    | 3 => (a 3).v = ptrAt (pb b7) 0
    | 4 => (a 4).v = .slice q st.length cc
    | 5 => (a 5).v = int st.length
    | 6 => (a 6).v = ptrAt (pb b7) 0
    | 7 => (a 7).v = .slice q st.length cc
    | 8 => (a 8).v = int st.length
    | 9 => (a 9).v = .slice q st.length st.length
    | 10 => (a 10).v = ptrAt (pb b9) 1
    | 11 => (a 11).v = str nm
    | 12 => (a 12).v = .slice (pb (a 12).b) 1 1
    | 13 => (a 13).v = .slice (a 13).p (st.length + 1) (a 13).c
    | 14 => (a 14).v = str (pthR st nm)
    | 15 => (a 15).v = .slice (pb (a 15).b) 1 1
    | 16 => (a 16).v = .slice (a 16).p (out.length + 1) (a 16).c
    | 17 => (a 17).v = .slice (a 16).p (out.length + 1) (a 16).c
    | _ => True
theorem lkI_right {ms : List EvM} (h : (lkR (evs ms)).err = 0) (i : Nat) : (lkI ms i).err = 0 := by
  rcases Classical.em ((lkI ms i).err = 0) with h0 | h0
  · exact h0
  · rw [lkI_stop h0] at h; exact absurd h h0
def slashes (st : List (List UInt8)) (j : Nat) : List UInt8 := (st.take j).flatMap fun n => n ++ [47]
theorem fm_take {α : Type} {f : α → List Value} {k : Nat} (h : ∀ x, (f x).length = k) (l : List α) (i : Nat) : (l.flatMap f).take (i * k) = (l.take i).flatMap f := by
  induction l generalizing i with
  | nil => simp
  | cons x l ih =>
    cases i with
    | zero => simp
    | succ i =>
      rw [List.flatMap_cons, List.take_succ_cons, List.flatMap_cons, ← ih i, List.take_append, h, List.take_of_length_le (by rw [h, Nat.succ_mul]; omega)]
      congr 2
      rw [Nat.succ_mul]; omega
theorem evs_take (ms : List EvM) (i : Nat) : evs (ms.take i) = (evs ms).take i := by rw [evs, evs, List.map_take]
theorem Evs.take {w : World} {p : Option Addr} {ms : List EvM} (h : Evs w p ms) (i : Nat) : Evs w p (ms.take i) := by
  refine ⟨?_, fun m hm => h.each m (List.mem_of_mem_take hm)⟩
  have := h.im.take (i * 4)
  rwa [fm_take EvM.len] at this
end Go.Proofs.YthgbpgjpnaanlaaDoor

/-
  The law EventBack.
-/
set_option linter.unusedSimpArgs false
set_option linter.unusedVariables false
set_option linter.unnecessarySimpa false
namespace Go.Proofs.YthgbpgjpnaanlaaDoor
open Go Go.Sv Go.RowKit

theorem lineS_of_may {t : Tok} (hm : mayR t = true) (hs : t.small) : lineS (lineR t) := by
  intro k x nm tx r0 es r hx hp hh ha
  have h1 := read_line hm
  rw [read_at k x _ hx hp, tok_end hh ha] at h1
  split at h1
  · have h2 := Option.some.inj h1
    unfold zeroT at h2
    injection h2 with e1 e2 e3 e4
    subst e2 e3 e4
    exact ⟨hs.name, hs.text, hs.attrs, hs.each⟩
  · cases h1
theorem cut_evLine {e : Ev} (h : evR e = true) {X : List UInt8} (h1 : evLine e = ew0 e.kind ++ 32 :: X) : cutB (evLine e) = (ew0 e.kind, X) := by
  have key : ∀ w : List UInt8, (w.all fun x => !decide (x.toNat = 32)) = true → ∀ x ∈ w, x.toNat ≠ 32 := fun w hw x hx => by
    have := List.all_eq_true.1 hw x hx; simpa using this
  rw [h1]
  refine cutB_app _ _ ?_
  rcases evR_kind h with hk | hk | hk | hk <;> rw [hk] <;> exact key _ (by decide)
theorem evKind_nat {e : Ev} (h : evR e = true) : ∃ k : Nat, e.kind = (k : Int) ∧ k < 4 := by
  rcases evR_kind h with hk | hk | hk | hk
  · exact ⟨0, hk, by decide⟩
  · exact ⟨1, hk, by decide⟩
  · exact ⟨2, hk, by decide⟩
  · exact ⟨3, hk, by decide⟩
theorem lineE_of_line {e : Ev} (h : evR e = true) (hs : e.small) : lineE (evLine e) := by
  intro k hk hw z hz
  obtain ⟨X, h1, h2⟩ := evLine_eq h
  obtain ⟨k2, hk2, hk24⟩ := evKind_nat h
  rw [cut_evLine h h1] at hw hz
  dsimp only at hw hz
  have : k = k2 := ew0_inj hk hk24 (by rw [hw, hk2])
  subst this
  rw [← hk2, ← h2, linesR_one (line_no _) (by rw [h2]; simp)] at hz
  rw [List.mem_singleton.1 hz]
  exact lineS_of_may (evTok_may h) (evTok_small hs)
theorem evw_len4 : ∀ l : List EvM, 4 * l.length ≤ evw l
  | [] => Nat.zero_le _
  | m :: l => by
    have ih := evw_len4 l
    have e : evw (m :: l) = m.e.wt + evw l := by simp [evw]
    have : 4 ≤ m.e.wt := by unfold Ev.wt; omega
    rw [e, List.length_cons]
    omega
set_option maxHeartbeats 4000000 in
theorem eventBack_ok (ms : List EvM) (p : Option Addr) (c : Nat) (kk : Int) (hkk : -9223372036854775808 ≤ kk ∧ kk ≤ 9223372036854775807) (hcc : ms.length ≤ c) (hw : evw ms ≤ 1048576) (w : World) (hA : Asc w) (hM : MaxW w) (hE : Evs w p ms) :
    PureC Tryd.prog 11 #[.slice p ms.length c, int kk] w (.bool true) := by
  have hn4 := evw_len4 ms
  have hs : ∀ m ∈ ms, m.e.small := fun m hm => Ev.small_of (Nat.le_trans (sum_mem (fun m : EvM => m.e.wt) ms hm) hw)
  have hss : ∀ n ∈ (lkR (evs ms)).stack, n.length ≤ 1048576 := stack_small _ (by
    intro e he
    obtain ⟨m, hm, rfl⟩ := List.mem_map.1 he
    exact (hs m hm).name)
  refine enter (l := [.slice p ms.length c, int kk]) Tryd.func11 rfl Tryd.ntmps11 (by kernel_rfl) rfl ?_
  refine sgo ?_
  refine wlpure (evPrint_ok ms p c (by omega) hs w hA hE) fun w1 hf1 => ?_
  obtain ⟨C, hC⟩ : ∃ C : Int, C = if (evs ms).all evR = true then 0 else 180 := ⟨_, rfl⟩
  obtain ⟨S, hPv⟩ : ∃ S, (if (evs ms).all evR = true then (.tuple #[str (evLns (evs ms)), int 0] : Value) else .tuple #[str [], int 180]) = .tuple #[str S, int C] ∧ ((evs ms).all evR = true → S = evLns (evs ms)) := by
    rw [hC]
    split
    · exact ⟨_, rfl, fun _ => rfl⟩
    · rename_i h; exact ⟨_, rfl, fun h2 => absurd h2 h⟩
  rw [hPv.1]
  refine sgo ?_
  refine wlpure (num18_ok C _) fun w2 hf2 => ?_
  have hf := hf1.trans hf2
  clear hf1 hf2
  refine sgo ?_
  refine wcutt (X := Unit) (fun _ => [(0, .slice p ms.length c), (1, int kk), (6, int C)]) (fun _ w' => Frm w w') ?_ ?_
  · by_cases hall : (evs ms).all evR = true
    · rw [if_pos hall] at hC
      subst hC
      obtain rfl := hPv.2 hall
      have hallp := List.all_eq_true.1 hall
      refine wcyes ?_ (ht := by decide)
      refine sgo ?_
      have hlen := evLns_len _ hallp
      have hev3 : ((evs ms).map Ev.wt).sum = evw ms := by simp [evs, evw, Function.comp_def]
      refine wlcall (evParse_ok (evLns (evs ms)) (by omega) (fun y hy => by
        rw [lines_evLns _ hallp] at hy
        obtain ⟨e, he, rfl⟩ := List.mem_map.1 hy
        obtain ⟨m, hm, rfl⟩ := List.mem_map.1 he
        exact lineE_of_line (hallp _ he) (hs m hm)) _ (hA.frm hf) (hM.frm hf)) ?_
      rw [evPR_back hallp]
      rintro _ w3 (⟨hpos, _⟩ | ⟨-, q, cc, ns, rfl, hev, hns, -, hS⟩)
      · exact absurd hpos (Nat.lt_irrefl 0)
      dsimp only at hev
      have hnl : ns.length = ms.length := by rw [← evs_len, hev, evs_len]
      have hf3 := hf.trans hS.frm
      refine sgo ?_
      refine wlpure (num18_ok 0 _) fun w4 hf4 => ?_
      replace hf3 := hf3.trans hf4
      replace hS := hS.grow hf4
      refine sgo ?_
      refine wlcallgp (vals := [.slice q ns.length cc, .slice p ms.length c]) (fun _ => eqEv_ok ns ms q p cc c (by omega) (by omega) hns hs _ (Sep.evs hS 0 1 rfl rfl) (hE.frm hf3)) fun w5 hf5 => ?_
      replace hf3 := hf3.trans hf5
      rw [decide_eq_true hev]
      refine sgo ?_
      exact ⟨(), ⟨rfl, rfl, rfl, trivial⟩, hf3⟩
    · rw [if_neg hall] at hC
      subst hC
      refine wcno ?_ (ht := by decide)
      refine sgo ?_
      exact ⟨(), ⟨rfl, rfl, rfl, trivial⟩, hf⟩
  clear hf hPv
  rintro _ w6 ρ hf
  refine sgo ?_
  refine wlcall (close_ok ms p c (by omega) hs w w6 [] ((Sep.start w).grow hf) (hA.frm hf) (hE.frm hf)) ?_
  clear hf
  rintro _ w7 ⟨q, cc, rfl, -, hS⟩
  refine sgo ?_
  refine wlpure (num18_ok _ _) fun w8 hf8 => ?_
  replace hS := hS.grow hf8
  by_cases herr : (lkR (evs ms)).err = 0
  · have hC0 : C = 0 := by rw [hC, if_pos (List.all_eq_true.2 (lk_all herr))]
    subst hC0
    have ho : openS (lkR (evs ms)) = (lkR (evs ms)).stack := if_pos herr
    have hcl := lk_closed herr
    have hst := (lk_ok herr).2.2.1
    rw [evs_len] at hst
    have hok := fun j => lkI_right herr j
    rw [ho] at hS ⊢
    rw [herr]
    generalize hK : (lkR (evs ms)).stack = st at *
    refine sgo ?_
    refine wlpure (num18_ok 0 _) fun w9 hf9 => ?_
    replace hS := hS.grow hf9
    refine sgo ?_
    refine wlcall (evOwn_ok ms p c (by omega) hs w _ _ hS (hE.frm hS.frm)) ?_
    rintro _ w10 ⟨q2, c2, ns, rfl, hev, -, hS⟩
    have hnl : ns.length = ms.length := by rw [← evs_len, hev, evs_len]
    have hns : ∀ m ∈ ns, m.e.small := fun m hm => by
      have : m.e ∈ evs ms := by rw [← hev]; exact List.mem_map_of_mem hm
      obtain ⟨m', hm', e⟩ := List.mem_map.1 this
      rw [← e]; exact hs m' hm'
    refine sgo ?_
    refine sapp hS 0 (hS.row 2 rfl).sg (fun q3 c3 w11 hS => ?_) (hl := by rw [fm_len EvM.len, List.length_map, List.length_reverse]) (h1 := by
      intro u hu
      obtain ⟨m, hm, hu⟩ := List.mem_flatMap.1 hu
      obtain ⟨n, _, rfl⟩ := List.mem_map.1 hm
      exact ev_one _ _ _ u hu) (hb := by omega)
    have hall2 : ns.flatMap EvM.cells ++ ((st.reverse.map closeM).flatMap EvM.cells) = (ns ++ st.reverse.map closeM).flatMap EvM.cells := by rw [List.flatMap_append]
    have hlen2 : ns.length + st.length = (ns ++ st.reverse.map closeM).length := by rw [List.length_append, List.length_map, List.length_reverse]
    replace hS : Sep w w11 [pRow 4 q3 (ns.length + st.length) c3 (ns.flatMap EvM.cells ++ ((st.reverse.map closeM).flatMap EvM.cells)), pMany (ns.map EvM.row), pRow 4 q st.length cc ((st.reverse.map closeM).flatMap EvM.cells)] := hS
    rw [hall2, hlen2] at hS
    have hEa : Evs w11 q3 (ns ++ st.reverse.map closeM) := ⟨hS.im 0 rfl, fun m hm => by
      rcases List.mem_append.1 hm with hm | hm
      · exact RowD.im (hS.many 1 rfl m.row (List.mem_map_of_mem hm))
      · obtain ⟨n, _, rfl⟩ := List.mem_map.1 hm
        exact Im.nil _ _ _⟩
    have hsa : ∀ m ∈ ns ++ st.reverse.map closeM, m.e.small := fun m hm => by
      rcases List.mem_append.1 hm with hm | hm
      · exact hns m hm
      · exact closeM_small (fun n hn => hss n (List.mem_reverse.1 hn)) m hm
    have hEv : evs (ns ++ st.reverse.map closeM) = evs ms ++ st.reverse.map closeE := by
      rw [← hev]
      show evs (ns ++ _) = evs ns ++ _
      rw [← closeM_evs]
      simp [evs]
    rw [← hEv] at hcl
    rw [hlen2]
    have hla : (ns ++ st.reverse.map closeM).length ≤ 1048576 := by rw [← hlen2]; omega
    clear hlen2 hall2 hEv hev hnl hns
    generalize ns ++ st.reverse.map closeM = al at *
    have hoa : openS (lkR (evs al)) = [] := by unfold openS; rw [if_pos hcl.1, hcl.2]
    refine sgo ?_
    refine wlcall (open_ok2 al q3 c3 hla hsa w w11 _ hS (hA.frm hS.frm) hEa) ?_
    rintro _ w12 ⟨q4, c4, rfl, -, hS⟩
    rw [hoa, hcl.1]
    have hk0 : ((ms.length : Int) + 1) ≠ 0 := by omega
    have hr1 := Int.tmod_lt_of_pos kk (show (0 : Int) < (ms.length : Int) + 1 by omega)
    have hr2 : -((ms.length : Int) + 1) < kk.tmod ((ms.length : Int) + 1) := Int.lt_tmod_of_pos kk (by omega)
    refine sgo ?_
    refine wl ?_ (y_remt rfl rfl hk0)
    generalize kk.tmod ((ms.length : Int) + 1) = m at *
    refine sgo ?_
    have hM1 := Int.emod_nonneg (m + ms.length + 1) hk0
    have hM2 := Int.emod_lt_of_pos (m + ms.length + 1) (show (0 : Int) < (ms.length : Int) + 1 by omega)
    generalize (m + ms.length + 1) % ((ms.length : Int) + 1) = M at *
    obtain ⟨j, rfl⟩ := Int.eq_ofNat_of_zero_le hM1
    have hj : j ≤ ms.length := by omega
    have hjt : (ms.take j).length = j := by rw [List.length_take]; omega
    have hokj := hok j
    clear hr1 hr2 hM1 hM2 hk0 hok
    have hE12 : Evs w12 p (ms.take j) := (hE.frm hS.frm).take j
    have hsj : ∀ m ∈ ms.take j, m.e.small := fun m hm => hs m (List.mem_of_mem_take hm)
    unfold lkI at hokj
    rw [← evs_take] at hokj
    have hnest := fun w' h1 h2 => nested_ok (ms.take j) p c (by omega) hsj w' h1 h2
    rw [hjt, hokj] at hnest
    refine sgo ?_
    refine wlpure (hnest _ (hA.frm hS.frm) hE12) fun w13 hf13 => ?_
    replace hS := hS.grow hf13
    refine sgo ?_
    refine wlpure (num18_ok 0 _) fun w14 hf14 => ?_
    replace hS := hS.grow hf14
    refine sgo ?_
    refine wlcallgp (vals := [int 0]) (fun _ => num18_ok 0 _) fun w15 hf15 => ?_
    replace hS := hS.grow hf15
    refine sgo ?_
    refine wlcallgp (vals := []) (fun _ => awake18_ok _ (hA.frm hS.frm)) (fun w16 hf16 => ?_) (ha := fun _ => rfl)
    replace hS := hS.grow hf16
    refine sgo ?_
    (first | refine fp1 (.inl rfl) rfl rfl ?_ | refine fp2 (.inl rfl) rfl rfl rfl ?_ | refine fp3 (.inl rfl) rfl rfl rfl rfl ?_ | refine fp0 (.inr rfl) rfl ?_ | refine fp0 (.inl rfl) rfl ?_ | refine fp1 (.inr rfl) rfl rfl ?_); refine ⟨?_, by (first | exact Frm.refl _ | assumption | exact Go.Sv.Sep.frm (by assumption) | (refine Frm.trans ?_ (by assumption); first | exact Frm.refl _ | assumption))⟩; (try simp only [realB, rv_true, Nat.reduceBEq, cond_true, cond_false, entG, real_lif, updGL])
    simp
  · have ho : openS (lkR (evs ms)) = [] := if_neg herr
    rw [ho]
    refine sgo ?_
    refine wcyes ?_ (ht := by simpa using herr)
    refine sgo ?_
    refine wlpure (nested_ok ms p c (by omega) hs _ (hA.frm hS.frm) (hE.frm hS.frm)) fun w9 hf9 => ?_
    replace hS := hS.grow hf9
    refine sgo ?_
    refine wlcallgp (vals := []) (fun _ => awake18_ok _ (hA.frm hS.frm)) (fun w10 hf10 => ?_) (ha := fun _ => rfl)
    replace hS := hS.grow hf10
    refine sgo ?_
    (first | refine fp1 (.inl rfl) rfl rfl ?_ | refine fp2 (.inl rfl) rfl rfl rfl ?_ | refine fp3 (.inl rfl) rfl rfl rfl rfl ?_ | refine fp0 (.inr rfl) rfl ?_ | refine fp0 (.inl rfl) rfl ?_ | refine fp1 (.inr rfl) rfl rfl ?_); refine ⟨?_, by (first | exact Frm.refl _ | assumption | exact Go.Sv.Sep.frm (by assumption) | (refine Frm.trans ?_ (by assumption); first | exact Frm.refl _ | assumption))⟩; (try simp only [realB, rv_true, Nat.reduceBEq, cond_true, cond_false, entG, real_lif, updGL])
    simp
end Go.Proofs.YthgbpgjpnaanlaaDoor

/-
  From a frame to what a row asks behind the call: nothing that was there has turned (new blocks may be frozen).
-/
set_option linter.unusedSimpArgs false
set_option linter.unusedVariables false
set_option linter.unnecessarySimpa false
namespace Go.ChangeShapes
section
variable {H : Type} {enc : TypeId × Value → H} {P : Program}
theorem post_frm {f : Func} {s : ChangeSpec} {apart fresh handsOn again : Bool} {W W' : World} {args : Array Value} {v : Value} {ds gs : List (DataW H)} {before pa pv : List MemPlace}
    (hW : DataW.Whole enc P f.params.toList s.vars apart W args.toList ds gs before)
    (hres : ∀ (b : Nat) (sp : Nat → Bool) (hd : Bool), DataW.TrodAll enc P W' b sp hd f.resultTypes.toList (v.resultList f.resultTypes.size) (s.fn H (ds ++ gs)).results [])
    (hargs : ∀ sp : Nat → Bool, (∀ p ∈ before, sp p.block = true) → DataW.TrodAll enc P W' 0 sp true f.params.toList args.toList (s.fn H (ds ++ gs)).args pa)
    (hvars : ∀ sp : Nat → Bool, (∀ p ∈ before, sp p.block = true) → DataW.TrodVars enc P W' sp s.vars (s.fn H (ds ++ gs)).vars pv)
    (hps : before = pa ++ pv) (hk : Sv.Frm W W')
    (hok : ∀ (j : Nat) (t : TypeId) (r : Value), f.resultTypes[j]? = some t → (v.resultList f.resultTypes.size)[j]? = some r → Value.okWide P W' .any 0 t r) :
    s.post enc P f apart fresh handsOn again W args v W' := by
  have hold : ∀ p ∈ before, (fun b => decide (b < W.heap.size)) p.block = true := fun p hp => by simpa using hW.lt p hp
  refine ⟨ds, gs, before, [], pa, pv, hW, hres _ _ _, hargs _ hold, hvars _ hold, World.keptBut_mono (fun p hp => ⟨hp, ?_⟩) (RowKit.Below.frame hk (· ∈ before)), fun _ => ?_⟩
  · rw [hps, List.mem_append] at hp
    exact Or.inr hp
  · have hlt := hW.lt
    obtain ⟨_, _, _, _, _, hz, hn⟩ := hW
    refine ⟨hok, _, _, ([] ++ pa) ++ pv, ⟨[] ++ pa, pv, trodAll_append (hargs _ (fun _ _ => rfl)) (hres _ _ _), hvars _ (fun _ _ => rfl), rfl, ?_, ?_⟩, ?_⟩
    · intro b off hp
      have hp' : (.cell b off : MemPlace) ∈ before := by rw [hps]; simpa using hp
      rw [RowKit.Below.frozen hk (hlt _ hp')]
      exact hz b off hp'
    · intro ha
      have := hn ha
      rw [hps] at this
      simpa using this
    · intro p hp _
      rw [hps]
      simpa using hp
end
end Go.ChangeShapes

/-
  From a reading of the arguments to what lies in memory; and back: a law leaves the arguments as they were.
-/
set_option linter.unusedSimpArgs false
set_option linter.unusedVariables false
set_option linter.unnecessarySimpa false
namespace Go.Sv
open Go Go.RowKit Go.ChangeShapes Go.WideShapes
theorem cell_lt {w : World} {a : Addr} {v : Value} (h : w.cell? a = some v) : a.block < w.heap.size := by
  rcases Nat.lt_or_ge a.block w.heap.size with h1 | h1
  · exact h1
  · have : w.heap[a.block]? = none := Array.getElem?_eq_none h1
    simp [World.cell?, this] at h
theorem seg_app {w : World} {a : Addr} {l l' : List Value} (h : seg w a l) (h' : seg w (a.add l.length) l') : seg w a (l ++ l') := by
  intro i hi
  rcases Nat.lt_or_ge i l.length with h1 | h1
  · rw [h i h1, List.getElem?_append_left h1]
  · have := h' (i - l.length) (by simp at hi; omega)
    rw [add_add, show l.length + (i - l.length) = i by omega] at this
    rw [this, List.getElem?_append_right h1]
theorem seg_range {w : World} {a : Addr} {k : Nat} (f : Nat → List Value) : ∀ n : Nat, (∀ i, i < n → (f i).length = k ∧ seg w (a.add (i * k)) (f i)) → seg w a ((List.range n).flatMap f) ∧ ((List.range n).flatMap f).length = n * k
  | 0, _ => ⟨fun i hi => by simp at hi, by simp⟩
  | n + 1, h => by
    obtain ⟨h1, h2⟩ := seg_range f n fun i hi => h i (by omega)
    obtain ⟨h3, h4⟩ := h n (by omega)
    rw [List.range_succ, List.flatMap_append]
    simp only [List.flatMap_cons, List.flatMap_nil, List.append_nil]
    refine ⟨seg_app h1 (by rw [h2]; exact h4), ?_⟩
    rw [List.length_append, h2, h3, Nat.succ_mul]
/-- a law's ending: it answered true, and left all as it was -/
theorem trodAll_frm {H : Type} {enc : TypeId × Value → H} {P : Program} (hl : laidOutB P = true) {W W' : World} (hf : Sv.Frm W W') {sp : Nat → Bool} : ∀ {ts : List TypeId} {vs : List Value} {ds : List (DataW H)} {ps : List MemPlace},
    (∀ t ∈ ts, P.readableRec t = true ∧ t < P.types.size) → DataW.TrodAll enc P W 0 (fun _ => true) true ts vs ds ps → (∀ p ∈ ps, p.block < W.heap.size) → (∀ p ∈ ps, sp p.block = true) → DataW.TrodAll enc P W' 0 sp true ts vs ds ps
  | [], [], [], _, _, h, _, _ => h
  | t :: ts, v :: vs, d :: ds, _, ht, ⟨p, q, h1, h2, e⟩, hlt, hs => by
    subst e
    refine ⟨p, q, ?_, ?_, rfl⟩
    · obtain ⟨hr, hrow⟩ := ht t List.mem_cons_self
      exact WideElems.Trod_stays hl hr hrow h1 (fun x hx => RowKit.Below.same hf (hlt x (List.mem_append_left _ hx))) fun x hx => hs x (List.mem_append_left _ hx)
    · exact trodAll_frm hl hf (fun t ht' => ht t (List.mem_cons_of_mem _ ht')) h2 (fun x hx => hlt x (List.mem_append_right _ hx)) fun x hx => hs x (List.mem_append_right _ hx)
theorem law_ends {H : Type} {enc : TypeId × Value → H} {P : Program} {f : Func} {s : ChangeSpec} {W W' : World} {args : Array Value} {ds gs : List (DataW H)} {before : List MemPlace} {tb : TypeId}
    (hl : laidOutB P = true) (hT : ∀ t ∈ f.params.toList, P.readableRec t = true ∧ t < P.types.size) (hv : s.vars = []) (hrt : f.resultTypes = #[tb]) (hb : P.underlying tb = some .bool)
    (hW : DataW.Whole enc P f.params.toList s.vars false W args.toList ds gs before) (hfn : s.fn H (ds ++ gs) = { results := [.lit (.bool true)], args := ds ++ gs }) (hg : Frm W W') :
    s.post enc P f false true false false W args (.bool true) W' := by
  have hW' := hW
  have hlt := hW.lt
  obtain ⟨p, q, hA, hV, rfl, _, _⟩ := hW
  rw [hv] at hV
  obtain ⟨rfl, rfl⟩ := trodVars_none hV
  have hrl : (Value.bool true).resultList f.resultTypes.size = [.bool true] := by rw [hrt]; rfl
  simp only [List.append_nil] at hlt hfn
  refine post_frm (pa := p) (pv := []) hW' (fun _ _ _ => ?_) (fun sp hsp => ?_) (fun _ _ => ?_) rfl hg (ok_one hrt rfl (okWide_bool_mk hb _))
  · rw [hrt]
    simp only [List.append_nil, hfn]
    exact trodAll_cons_mk (shut_bool hb _) trodAll_mk0
  · simp only [List.append_nil, hfn]
    exact trodAll_frm hl hg hT hA hlt (fun x hx => hsp x (by simpa using hx))
  · simp only [List.append_nil, hfn, hv]
    rfl
end Go.Sv
namespace Go.Proofs.YthgbpgjpnaanlaaDoor
open Go Go.Sv Go.RowKit Go.ChangeShapes Go.WideShapes Go.Deep

theorem laidOut : laidOutB Tryd.prog = true := by kernel_rfl
theorem own : ownKnob Tryd.prog.godebug = none := by kernel_rfl

section
variable {H : Type} {P : Program} {enc : TypeId × Value → H} {w : World} {base : Nat} {spare : Nat → Bool} {held : Bool}
theorem bulkAll_eq : ∀ l : List (DataW H), Rows.uptoBulkAll l = (l.map Rows.uptoBulk).sum
  | [] => by simp [Rows.uptoBulkAll]
  | d :: l => by simp only [Rows.uptoBulkAll, List.map_cons, List.sum_cons, bulkAll_eq l]
theorem bulk_slice (es rs : List (DataW H)) : Rows.uptoBulk (.slice es rs) = (es.map Rows.uptoBulk).sum + (rs.map Rows.uptoBulk).sum + 1 := by simp only [Rows.uptoBulk, bulkAll_eq]
theorem bulk_agg (es : List (DataW H)) : Rows.uptoBulk (.agg es) = (es.map Rows.uptoBulk).sum + 1 := by simp only [Rows.uptoBulk, bulkAll_eq]
theorem bulk_nil : Rows.uptoBulk (.nil : DataW H) = 1 := by simp only [Rows.uptoBulk]
theorem bulk_str (l : List UInt8) : Rows.uptoBulk (.lit (.string l) : DataW H) = l.length + 1 := by simp only [Rows.uptoBulk]
theorem bulk_int (k : IntKind) (n : Int) : Rows.uptoBulk (.lit (.int k n) : DataW H) = 1 := by simp only [Rows.uptoBulk]
/-- a slice of records: what they are, where they lie, and what they hold together -/
theorem open_recs {t e : TypeId} {fuel : Nat} {cs : List Value} {x : DataW H × List MemPlace} {α : Type} (cells : α → List Value) (wt : α → Nat) (Q : α → Prop) (ht : P.underlying t = some (.slice e))
    (h : DataW.trod enc P w base spare held fuel t cs = some x)
    (hrec : ∀ k cs' y, cs'.length = P.cellsOf e → DataW.trod enc P w base spare held k e cs' = some y → ∃ r, cs' = cells r ∧ Q r ∧ wt r ≤ Rows.uptoBulk y.1) :
    ∃ (p : Option Addr) (c : Nat) (rs : List α), cs = [.slice p rs.length c] ∧ rs.length ≤ c ∧ c ≤ maxLen ∧ Im [] w p (rs.flatMap cells) ∧ (∀ r ∈ rs, Q r) ∧ (rs.map wt).sum + 1 ≤ Rows.uptoBulk x.1 := by
  rcases open_slice ht h with ⟨rfl, rfl⟩ | ⟨a, len, cap, m, n, D, Pl, rfl, _, hl, hm, hmm, rfl, hi⟩
  · exact ⟨none, 0, [], rfl, Nat.le_refl _, Nat.zero_le _, .inl rfl, by simp, by simp [bulk_nil]⟩
  · have hlm : len ≤ m := by rw [hmm]; split <;> omega
    have key : ∀ n : Nat, n ≤ len → ∃ rs : List α, rs.length = n ∧ rs.flatMap cells = (List.range n).flatMap (fun i => (w.cells? base (a.add (i * P.cellsOf e)) (P.cellsOf e)).getD []) ∧ (∀ r ∈ rs, Q r) ∧ (rs.map wt).sum ≤ ((List.range n).map fun i => Rows.uptoBulk (D i)).sum := by
      intro n
      induction n with
      | zero => intro _; exact ⟨[], rfl, rfl, by simp, by simp⟩
      | succ n ih =>
        intro hn
        obtain ⟨rs, h1, h2, h3, h4⟩ := ih (by omega)
        obtain ⟨cs', h5, h6⟩ := hi n (by omega)
        obtain ⟨_, hcl, _⟩ := World.cells?_some h5
        obtain ⟨r, h7, h8, h9⟩ := hrec _ _ _ hcl h6
        refine ⟨rs ++ [r], by simp [h1], ?_, ?_, ?_⟩
        · rw [List.range_succ, List.flatMap_append, List.flatMap_append, h2]
          simp [h5, h7]
        · intro x hx
          rcases List.mem_append.1 hx with hx | hx
          · exact h3 x hx
          · rw [List.mem_singleton.1 hx]; exact h8
        · rw [List.range_succ, List.map_append, List.map_append, List.sum_append, List.sum_append]
          simp only [List.map_cons, List.map_nil, List.sum_cons, List.sum_nil]
          dsimp only at h9
          omega
    obtain ⟨rs, h1, h2, h3, h4⟩ := key len (Nat.le_refl _)
    refine ⟨some a, cap, rs, by rw [h1], by omega, hm, ?_, h3, ?_⟩
    · rw [h2]
      have hsr := seg_range (w := w) (a := a) (k := P.cellsOf e) (fun i => (w.cells? base (a.add (i * P.cellsOf e)) (P.cellsOf e)).getD []) len (fun i hil => by
        obtain ⟨cs', h5, _⟩ := hi i (by omega)
        obtain ⟨_, hcl, hat⟩ := World.cells?_some h5
        rw [h5]
        exact ⟨hcl, fun j hj => hat j (by simpa [hcl] using hj)⟩)
      generalize (List.range len).flatMap (fun i => (w.cells? base (a.add (i * P.cellsOf e)) (P.cellsOf e)).getD []) = L at *
      cases L with
      | nil => exact .inl rfl
      | cons v L =>
        refine .inr ⟨a, rfl, hsr.1, ?_, by simp⟩
        have := hsr.1 0 (by simp)
        have h0 : w.cell? (a.add 0) = some v := this
        have := cell_lt h0
        rwa [add_block] at this
    · rw [bulk_slice, List.map_map]
      have : ((List.range len).map (Rows.uptoBulk ∘ D)).sum = ((List.range len).map fun i => Rows.uptoBulk (D i)).sum := rfl
      omega
theorem str_of (s : ByteArray) : Value.string s = str s.data.toList := by cases s; rfl
/-- a cell that is a text -/
theorem open_strc {t : TypeId} {fuel : Nat} {cs : List Value} {x : DataW H × List MemPlace} (ht : P.underlying t = some .string) (h : DataW.trod enc P w base spare held fuel t cs = some x) : ∃ l : List UInt8, cs = [str l] ∧ Rows.uptoBulk x.1 = l.length + 1 := by
  obtain ⟨s, rfl, rfl, _⟩ := DataW.trod_string ht h
  exact ⟨s.data.toList, by rw [str_of], bulk_str _⟩
theorem open_intc {t : TypeId} {k : IntKind} {fuel : Nat} {cs : List Value} {x : DataW H × List MemPlace} (ht : P.underlying t = some (.int k)) (h : DataW.trod enc P w base spare held fuel t cs = some x) : ∃ n : Int, cs = [.int k n] ∧ k.min ≤ n ∧ n ≤ k.max ∧ Rows.uptoBulk x.1 = 1 := by
  obtain ⟨n, rfl, rfl, hw⟩ := DataW.trod_int ht h
  simp only [Lit.wf, IntKind.has, Bool.and_eq_true, decide_eq_true_eq] at hw
  exact ⟨n, rfl, hw.1, hw.2, bulk_int _ _⟩
theorem small_le {ds : List (DataW H)} (hk : Rows.uptoSmall H ds = true) : (ds.map Rows.uptoBulk).sum ≤ 1048576 := by
  have := of_decide_eq_true hk
  rwa [bulkAll_eq] at this
end
end Go.Proofs.YthgbpgjpnaanlaaDoor

/-
  Readings of attributes: what lies in memory.
-/
set_option linter.unusedSimpArgs false
set_option linter.unusedVariables false
set_option linter.unnecessarySimpa false
namespace Go.Proofs.YthgbpgjpnaanlaaDoor
open Go Go.Sv Go.RowKit Go.ChangeShapes Go.WideShapes Go.Deep

theorem c_str : Tryd.prog.cellsOf 9 = 1 := by kernel_rfl
theorem c_attrs : Tryd.prog.cellsOf 46 = 1 := by kernel_rfl
theorem c_attr : Tryd.prog.cellsOf 51 = 2 := by kernel_rfl
section
variable {H : Type} {enc : TypeId × Value → H} {w : World} {base : Nat} {spare : Nat → Bool} {held : Bool}
set_option maxRecDepth 100000 in
theorem open_at {fuel : Nat} {cs : List Value} {x : DataW H × List MemPlace} (h : DataW.trod enc Tryd.prog w base spare held fuel 51 cs = some x) : ∃ r : At, cs = r.cells ∧ True ∧ r.wt ≤ Rows.uptoBulk x.1 := by
  obtain ⟨xs, n, _, rfl, hl, hlen, hf⟩ := DataW.trod_struct Tryd.underlying51 h
  rw [c_attr] at hl
  have f0 := hf 0 _ rfl
  have f1 := hf 1 _ rfl
  clear hf h
  match cs, hl with
  | [c0, c1], _ =>
    match xs, hlen with
    | [y0, y1], _ =>
      simp only [c_str, List.drop_zero, List.drop_succ_cons, List.take_succ_cons, List.take_zero, List.getElem?_cons_zero, List.getElem?_cons_succ] at f0 f1
      obtain ⟨l0, e0, b0⟩ := open_strc Tryd.underlying9 f0
      obtain ⟨l1, e1, b1⟩ := open_strc Tryd.underlying9 f1
      injection e0 with e0
      injection e1 with e1
      subst e0 e1
      refine ⟨⟨l0, l1⟩, rfl, trivial, ?_⟩
      rw [bulk_agg]
      simp only [List.map_cons, List.map_nil, List.sum_cons, List.sum_nil, b0, b1, At.wt]
      omega
end
end Go.Proofs.YthgbpgjpnaanlaaDoor

/-
  Readings of events: what lies in memory.
-/
set_option linter.unusedSimpArgs false
set_option linter.unusedVariables false
set_option linter.unnecessarySimpa false
namespace Go.Proofs.YthgbpgjpnaanlaaDoor
open Go Go.Sv Go.RowKit Go.ChangeShapes Go.WideShapes Go.Deep
theorem c_ekind : Tryd.prog.cellsOf 45 = 1 := by kernel_rfl
theorem c_ev : Tryd.prog.cellsOf 48 = 4 := by kernel_rfl
section
variable {H : Type} {enc : TypeId × Value → H} {w : World} {base : Nat} {spare : Nat → Bool} {held : Bool}
set_option maxRecDepth 100000 in
theorem open_ev {fuel : Nat} {cs : List Value} {x : DataW H × List MemPlace} (h : DataW.trod enc Tryd.prog w base spare held fuel 48 cs = some x) : ∃ r : EvM, cs = r.cells ∧ Im [] w r.p (r.e.attrs.flatMap At.cells) ∧ r.e.wt ≤ Rows.uptoBulk x.1 := by
  obtain ⟨xs, n, _, rfl, hl, hlen, hf⟩ := DataW.trod_struct Tryd.underlying48 h
  rw [c_ev] at hl
  have f0 := hf 0 _ rfl
  have f1 := hf 1 _ rfl
  have f2 := hf 2 _ rfl
  have f3 := hf 3 _ rfl
  clear hf h
  match cs, hl with
  | [c0, c1, c2, c3], _ =>
    match xs, hlen with
    | [y0, y1, y2, y3], _ =>
      simp only [c_str, c_ekind, c_attrs, List.drop_zero, List.drop_succ_cons, List.take_succ_cons, List.take_zero, List.getElem?_cons_zero, List.getElem?_cons_succ] at f0 f1 f2 f3
      obtain ⟨k, e0, _, _, b0⟩ := open_intc Tryd.underlying45 f0
      obtain ⟨l1, e1, b1⟩ := open_strc Tryd.underlying9 f1
      obtain ⟨l2, e2, b2⟩ := open_strc Tryd.underlying9 f2
      obtain ⟨p, c, es, e3, _, _, him, _, b3⟩ := open_recs At.cells At.wt (fun _ => True) Tryd.underlying46 f3 (fun k cs' y _ hy => open_at hy)
      injection e0 with e0; injection e1 with e1; injection e2 with e2; injection e3 with e3
      subst e0 e1 e2 e3
      refine ⟨⟨⟨k, l1, l2, es⟩, p, c⟩, rfl, him, ?_⟩
      simp only [bulk_agg, List.map_cons, List.map_nil, List.sum_cons, List.sum_nil, b0, b1, b2]
      unfold Ev.wt
      dsimp only at b3 ⊢
      omega
end
end Go.Proofs.YthgbpgjpnaanlaaDoor

/-
  Readings of lists of events, with their capacity.
-/
set_option linter.unusedSimpArgs false
set_option linter.unusedVariables false
set_option linter.unnecessarySimpa false
namespace Go.Proofs.YthgbpgjpnaanlaaDoor
open Go Go.Sv Go.RowKit Go.ChangeShapes Go.WideShapes Go.Deep
set_option maxRecDepth 100000 in
theorem open_evs2 {H : Type} {enc : TypeId × Value → H} {w : World} {base : Nat} {spare : Nat → Bool} {held : Bool} {v : Value} {d : DataW H} {ps : List MemPlace} {r : Reach} {b0 : Nat} (hv : Value.okWide Tryd.prog w r b0 25 v) (h : DataW.Trod enc Tryd.prog w base spare held 25 v d ps) :
    ∃ (p : Option Addr) (c : Nat) (ms : List EvM), v = .slice p ms.length c ∧ ms.length ≤ c ∧ Evs w p ms ∧ evw ms + 1 ≤ Rows.uptoBulk d := by
  obtain ⟨a, n, cc, rfl⟩ := okWide_slice Tryd.underlying25 hv
  obtain ⟨fuel, hf⟩ := h
  obtain ⟨p, c, ms, e, hc, _, him, hQ, hw⟩ := open_recs EvM.cells (fun m => m.e.wt) (fun m => Im [] w m.p (m.e.attrs.flatMap At.cells)) Tryd.underlying25 hf (fun k cs' y _ hy => open_ev hy)
  have e' : Value.slice a n cc = .slice p ms.length c := by simpa [Value.cells] using e
  exact ⟨p, c, ms, e', hc, ⟨him, hQ⟩, hw⟩
end Go.Proofs.YthgbpgjpnaanlaaDoor

/-
  Readings of arguments of one cell: numbers, truth values.
-/
set_option linter.unusedSimpArgs false
set_option linter.unusedVariables false
set_option linter.unnecessarySimpa false
namespace Go.Proofs.YthgbpgjpnaanlaaDoor
open Go Go.Sv Go.RowKit Go.ChangeShapes Go.WideShapes Go.Deep
set_option maxRecDepth 100000 in
theorem open_int1 {H : Type} {enc : TypeId × Value → H} {w : World} {base : Nat} {spare : Nat → Bool} {held : Bool} {v : Value} {d : DataW H} {ps : List MemPlace} {r : Reach} {b0 : Nat} (hv : Value.okWide Tryd.prog w r b0 3 v) (h : DataW.Trod enc Tryd.prog w base spare held 3 v d ps) :
    ∃ n : Int, v = .int .i64 n ∧ IntKind.min .i64 ≤ n ∧ n ≤ IntKind.max .i64 ∧ 1 ≤ Rows.uptoBulk d := by
  obtain ⟨s, rfl⟩ := okWide_int Tryd.underlying3 hv
  obtain ⟨fuel, hf⟩ := h
  obtain ⟨l, e, h1, h2, hw⟩ := open_intc Tryd.underlying3 hf
  dsimp only at hw
  exact ⟨l, by simpa [Value.cells] using e, h1, h2, by omega⟩
end Go.Proofs.YthgbpgjpnaanlaaDoor

/-
  Readings of arguments of one cell: texts.
-/
set_option linter.unusedSimpArgs false
set_option linter.unusedVariables false
set_option linter.unnecessarySimpa false
namespace Go.Proofs.YthgbpgjpnaanlaaDoor
open Go Go.Sv Go.RowKit Go.ChangeShapes Go.WideShapes Go.Deep
section
variable {H : Type} {enc : TypeId × Value → H} {w : World} {base : Nat} {spare : Nat → Bool} {held : Bool}
end
end Go.Proofs.YthgbpgjpnaanlaaDoor

/-
  What a row's list says of the table of blanks; a world for the witness.
-/
set_option linter.unusedSimpArgs false
set_option linter.unusedVariables false
set_option linter.unnecessarySimpa false
namespace Go.Proofs.YthgbpgjpnaanlaaDoor
open Go Go.Sv Go.RowKit Go.ChangeShapes Go.WideShapes Go.ChangeAt

theorem laid_at {P : Program} {W : World} {name : String} {d : DataW Unit} : ∀ {laid : List (String × DataW Unit)} {ps : List MemPlace}, DataW.LaidVars P W laid ps → (name, d) ∈ laid →
    ∃ g t cs fuel p, P.globalNamed name = some g ∧ (P.globals[g]?).map (·.type) = some t ∧ W.var? P name = some cs ∧ DataW.trod (fun _ => ()) P W 0 (fun _ => true) false fuel t cs.toList = some (d, p)
  | [], _, _, hm => by cases hm
  | x :: laid, ps, h, hm => by
    obtain ⟨g', t', cs, fuel, p, q, hg', ht', hvar, hd, hr, _⟩ := h
    rcases List.mem_cons.1 hm with rfl | hm
    · exact ⟨g', t', cs, fuel, p, hg', ht', hvar, hd⟩
    · exact laid_at hr hm
theorem gAscType : (Tryd.prog.globals[0]?).map (·.type) = some 160 := by kernel_rfl
set_option maxRecDepth 100000 in
theorem asc_of {W : World} {laid : List (String × DataW Unit)} (h : laidMet Tryd.prog laid W) (hm : ("strings.asciiSpace", Rows.laid_strings_asciiSpace) ∈ laid) : Asc W := by
  obtain ⟨ps, hL, _⟩ := h
  obtain ⟨g', t', cs, fuel, p, hg', ht', hvar, hd⟩ := laid_at hL hm
  obtain rfl := Option.some.inj (gAsc.symm.trans hg')
  obtain rfl := Option.some.inj (gAscType.symm.trans ht')
  have e : (Rows.laid_strings_asciiSpace : DataW Unit) = Lib.tabData .u8 Lib.asciiSpaceTab := by kernel_rfl
  rw [e] at hd
  unfold Asc Lib.TabIs
  rw [hvar, ← Lib.cells_of_tab Tryd.underlying160 Tryd.underlying5 (by kernel_rfl) (by kernel_rfl) hd]
/-- a world for the witness: the variables hold what their initialisers lay -/
noncomputable def ascHeap (h : Array Obj) : Array Obj :=
  (((h.modify 0 fun | .cells _ t f => .cells (Lib.asciiSpaceTab.map fun z => Value.int .u8 z).toArray t f | o => o).modify 1 fun
    | .cells _ t f => .cells #[.pointer (some ⟨h.size, 0, none⟩)] t f | o => o).push (.cells #[.slice (some ⟨h.size + 1, 0, none⟩) 7 7, .slice none 0 0, .int .i64 2] 201 (0, 0))).push
    (.cells (([9, 13, 1, 32, 133, 101, 160, 5760, 5600, 8192, 8202, 1, 8232, 8233, 1, 8239, 8287, 48, 12288, 12288, 1] : List Int).map fun z => Value.int .u16 z).toArray 204 (0, 0))
noncomputable def ascWorld (os : Os) : World := { World.holding Tryd.prog os ⟨#[], #[], []⟩ with heap := ascHeap (World.holding Tryd.prog os ⟨#[], #[], []⟩).heap }
end Go.Proofs.YthgbpgjpnaanlaaDoor

/-
  A world for the witness of cards that list the tables of blanks and those of package utf8.
-/
set_option linter.unusedSimpArgs false
set_option linter.unusedVariables false
set_option linter.unnecessarySimpa false
namespace Go.Proofs.YthgbpgjpnaanlaaDoor
open Go Go.Sv Go.RowKit Go.ChangeShapes Go.WideShapes Go.ChangeAt
noncomputable def bakHeap (h : Array Obj) : Array Obj :=
  ascHeap ((h.modify 3 fun
    | .cells _ t f => .cells (Go.Pinned.utf8FirstZ.map fun (z : Nat) => Value.int .u8 z).toArray t f | o => o).modify 4 fun
    | .cells _ t f => .cells (([128, 191, 160, 191, 128, 159, 144, 191, 128, 143] ++ List.replicate 22 0 : List Int).map fun z => Value.int .u8 z).toArray t f | o => o)
noncomputable def bakWorld (os : Os) : World := { World.holding Tryd.prog os ⟨#[], #[], []⟩ with heap := bakHeap (World.holding Tryd.prog os ⟨#[], #[], []⟩).heap }
end Go.Proofs.YthgbpgjpnaanlaaDoor

