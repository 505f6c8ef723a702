/-
  Loops over functions; calls of function values.
-/
import Derived.Test.YtffaoehhhdcjjaaSvGo
set_option linter.unusedSimpArgs false
set_option linter.unusedVariables false
set_option linter.unnecessarySimpa false
namespace Go.Sv
open Go Go.RowKit

/-- a loop's record -/
def LoopAt (w : World) (l : Nat) (r : Loop) : Prop := w.heap[l]? = some (.loop r)
theorem LoopAt.lt {w : World} {l : Nat} {r : Loop} (h : LoopAt w l r) : l < w.heap.size := (Array.getElem?_eq_some_iff.1 h).1
theorem LoopAt.le {w w' : World} {M : List Nat} {l : Nat} {r : Loop} (h : LoopAt w l r) (hl : Le M w w') (hm : l ∉ M) : LoopAt w' l r := (hl.block l h.lt hm).trans h
theorem LoopAt.frm {w w' : World} {l : Nat} {r : Loop} (h : LoopAt w l r) (hl : Frm w w') : LoopAt w' l r := h.le (M := []) hl.le (by simp)
/-- the block of a loop's deferred calls: there are none -/
def NoDef (w : World) (D : Nat) : Prop := w.heap[D]? = some (.deferred (some []))
theorem NoDef.lt {w : World} {D : Nat} (h : NoDef w D) : D < w.heap.size := (Array.getElem?_eq_some_iff.1 h).1
theorem NoDef.le {w w' : World} {M : List Nat} {D : Nat} (h : NoDef w D) (hl : Le M w w') (hm : D ∉ M) : NoDef w' D := (hl.block D h.lt hm).trans h
theorem NoDef.frm {w w' : World} {D : Nat} (h : NoDef w D) (hl : Frm w w') : NoDef w' D := h.le (M := []) hl.le (by simp)
theorem le_putObj (w : World) (l : Nat) (o : Obj) : Le [l] w (w.putObj l o) := ⟨rfl, rfl, rfl, by simp, fun k _ hk => World.putObj_heap_other (by simpa using hk)⟩

/-- yield, called with 'args': it answers a bool, and R holds then -/
def Yld (P : Program) (l : Nat) (args : List Value) (w : World) (R : Bool → World → Prop) : Prop :=
  ∃ r, LoopAt w l r ∧ args.toArray.size = r.params.size ∧ RoundIn Fence.wide 0 P l r.fn ((r.params.zip args.toArray).foldl (fun tmps (t, a) => tmps.setIfInBounds t a) r.tmps) r.assign r.body w fun e w' => ∃ b, e = .returned (.bool b) ∧ R b w'
theorem Yld.mono {P : Program} {l : Nat} {args : List Value} {w : World} {R R' : Bool → World → Prop} (h : Yld P l args w R) (hr : ∀ b w', R b w' → R' b w') : Yld P l args w R' := by
  obtain ⟨r, h1, h2, h3⟩ := h
  exact ⟨r, h1, h2, h3.mono fun _ _ ⟨b, he, hb⟩ => ⟨b, he, hr _ _ hb⟩⟩

theorem roundIn_fen {ro : Option Nat} {m n : Nat} {P : Program} {l : Nat} {f : FuncId} {tmps : Array Value} {assign body : Code} {w : World} {R : Ending → World → Prop} (h : RoundIn Fence.wide m P l f tmps assign body w R) : RoundIn (fen ro) n P l f tmps assign body w R := by
  refine ⟨fen_fn ro f, fun c cs _ => ?_⟩
  obtain ⟨e, w', hR, hs⟩ := h.2 c cs (room_wide _)
  cases ro <;> exact ⟨e, w', hR, hs⟩

section
variable {P : Program} {n : Nat} {ds : Ctx} {ops : Array Oper} {Q : Exit → Ctx → Env → World → Prop} {rest : List Oper} {σ : GE} {w : World} {v : Value} {d : Nat} {ty : TypeId} {pos : String} {af : Array Edge} {l : Nat} {xs : List Operand} {ats : Array TypeId} {x : Operand}
theorem run_call_yield {σ : Env} {dd : Option Tmp} {g : Option (Nat × Bool)} {r : Loop} {args : List Value} (hx : evl σ x = .func (.yield l) #[] #[]) (ha : xs.map (evl σ) = args) (hl : LoopAt w l r) (hs : args.toArray.size = r.params.size) :
    (execOp (evl σ) ⟨dd, .call ⟨.value x, xs.toArray, ats⟩, ty, pos, af, g⟩).run P w = .ok (.round l r.fn ((r.params.zip args.toArray).foldl (fun tmps (t, a) => tmps.setIfInBounds t a) r.tmps) r.assign r.body) w := by
  subst ha
  simp only [execOp, resolve, hx, Deferred.ofValue]
  simp only [Sem.run_bind, Sem.run_pure, Result.andThen_ok, invoke]
  have := run_yield (P := P) hl hs
  simpa using this
/-- a call of yield -/
theorem wlyield {args : List Value} {R : Bool → World → Prop} (hy : Yld P l args w R) (h : ∀ b w', R b w' → WL P n ds ops Q rest (real (updG σ d ⟨.bool b, true⟩)) w')
    (hx : evl (real σ) x = .func (.yield l) #[] #[] := by rfl) (ha : xs.map (evl (real σ)) = args := by first | rfl | exact am1 rfl | exact am2 rfl rfl) :
    WL P n ds ops Q (⟨some d, .call ⟨.value x, xs.toArray, ats⟩, ty, pos, af, none⟩ :: rest) (real σ) w := by
  obtain ⟨r, h1, h2, h3⟩ := hy
  refine WL_upon (by simp [Region.wanted]) fun hin K hK _ => ?_
  have hd := operIn_dst hin
  rw [run_call_yield hx ha h1 h2, Oper.uponIn_round]
  refine ⟨fun hx => (by rw [fen_depth] at hx; cases hx), roundIn_fen (m := 0) (h3.mono ?_)⟩
  rintro e w' ⟨b, rfl, hb⟩
  show K _ _
  rw [act_put hd]
  have := h b w' hb
  rw [← real_upd] at this
  exact hK _ _ this
/-- a call of a function value -/
theorem run_call_fv {σ : Env} {dd : Option Tmp} {g : Option (Nat × Bool)} {f : FuncId} [hf : Fnc P f] {first cap args : List Value} (hx : evl σ x = .func (.func f) ⟨first⟩ ⟨cap⟩) (ha : xs.map (evl σ) = args) :
    (execOp (evl σ) ⟨dd, .call ⟨.value x, xs.toArray, ats⟩, ty, pos, af, g⟩).run P w = .ok (.enter f (first ++ args ++ cap).toArray) w := by
  subst ha
  simp only [execOp, resolve, hx, Deferred.ofValue]
  simp only [Sem.run_bind, Sem.run_pure, Result.andThen_ok, invoke]
  have := run_callFunc (P := P) (f := f) (first ++ xs.map (evl σ) ++ cap).toArray w
  simpa using this
theorem wlcallv {f : FuncId} [hf : Fnc P f] {first cap args : List Value} {R : Value → World → Prop} (hc : CallsR P f (first ++ args ++ cap).toArray w R) (h : ∀ v w', R v w' → WL P n ds ops Q rest (real (updG σ d ⟨v, true⟩)) w')
    (hx : evl (real σ) x = .func (.func f) ⟨first⟩ ⟨cap⟩ := by rfl) (ha : xs.map (evl (real σ)) = args := by first | rfl | exact am1 rfl | exact am2 rfl rfl) :
    WL P n ds ops Q (⟨some d, .call ⟨.value x, xs.toArray, ats⟩, ty, pos, af, none⟩ :: rest) (real σ) w :=
  WL_enter (S := fun _ _ => False) (by simp [Region.wanted]) (run_call_fv hx ha) (Calls.mono hc fun _ _ h => .inl h) (fun v w' hR => by have := h v w' hR; rw [← real_upd] at this; exact this) fun _ _ h => h.elim
end

/-! ## the statement -/
/-- what a round leaves of the record -/
def rndP (rec : LoopState → Option Code → Loop) (l : Nat) (R : Bool → World → Prop) : Exit → Ctx → Env → World → Prop
  | .normal, _, _, w => LoopAt w l (rec .busy none) ∧ ∀ w', Le [l] w w' → LoopAt w' l (rec .ready none) → R true w'
  | .ret, _, _, w => LoopAt w l (rec .busy none) ∧ ∀ w', Le [l] w w' → LoopAt w' l (rec .done (some .ret)) → R false w'
  | .exit id, _, _, w => LoopAt w l (rec .busy none) ∧ ∀ w', Le [l] w w' → LoopAt w' l (rec .done (some (.exit id))) → R false w'
  | _, _, _, _ => False
/-- what follows the loop, by what a round left it for -/
def aftP (P : Program) (Q : Exit → Ctx → Env → World → Prop) (c : Ctx) (σ : Env) (w : World) : Option Code → Prop
  | none => Q .normal c σ w
  | some .ret => Q .ret c σ w
  | some (.exit id) => Q (.exit id) c σ w
  | some _ => False
section
variable {P : Program} {n : Nat} {ds : Ctx} {Q : Exit → Ctx → Env → World → Prop} {σ : GE} {w : World} {l D : Nat} {assign body : Code} {ps : List Tmp}
/-- the frame's slots with yield's arguments -/
def updZ (σ : Env) : List Tmp → List Value → Env
  | p :: ps, v :: vs => updZ (upd σ p v) ps vs
  | _, _ => σ
theorem zip_put (dd : List Deferred) : ∀ (ps : List Tmp) (vs : List Value) (σ : Env), ps.all (fun t => Nat.blt t n) = true →
    (ps.toArray.zip vs.toArray).foldl (fun tmps (t, a) => tmps.setIfInBounds t a) (act n dd σ).tmps = (act n dd (updZ σ ps vs)).tmps := by
  intro ps vs σ h
  rw [← Array.foldl_toList]
  have e : (ps.toArray.zip vs.toArray).toList = ps.zip vs := by simp
  rw [e]
  clear e
  induction ps generalizing vs σ with
  | nil => simp [updZ]
  | cons p ps ih =>
    cases vs with
    | nil => simp [updZ]
    | cons v vs =>
      simp only [List.all_cons, Bool.and_eq_true] at h
      simp only [List.zip_cons_cons, List.foldl_cons, updZ]
      have := act_put (ds := dd) (σ := σ) (d := some p) (v := v) (n := n) h.1
      have e2 : (act n dd σ).tmps.setIfInBounds p v = (act n dd (upd σ p v)).tmps := congrArg Act.tmps this
      rw [e2]
      exact ih vs (upd σ p v) h.2
theorem real_updZ : ∀ (ps : List Tmp) (vs : List Value) (σ : GE), ∃ σ' : GE, updZ (real σ) ps vs = real σ'
  | [], _, σ => ⟨σ, rfl⟩
  | _ :: _, [], σ => ⟨σ, rfl⟩
  | p :: ps, v :: vs, σ => by
    have := real_updZ ps vs (updG σ p ⟨v, true⟩)
    simp only [updZ]
    rw [show upd (real σ) p v = real (updG σ p ⟨v, true⟩) from real_upd σ p ⟨v, true⟩]
    exact this
def updZG (σ : GE) : List Tmp → List Value → GE
  | p :: ps, v :: vs => updZG (updG σ p ⟨v, true⟩) ps vs
  | _, _ => σ
theorem updZ_real : ∀ (ps : List Tmp) (vs : List Value) (σ : GE), updZ (real σ) ps vs = real (updZG σ ps vs)
  | [], _, σ => by simp [updZ, updZG]
  | _ :: _, [], σ => by simp [updZ, updZG]
  | p :: ps, v :: vs, σ => by
    simp only [updZ, updZG]
    rw [show upd (real σ) p v = real (updG σ p ⟨v, true⟩) from real_upd σ p ⟨v, true⟩]
    exact updZ_real ps vs _

/-- what the record of a loop is, but for how it stands -/
def recOf (P : Program) (n : Nat) (fn : FuncId) (dd : List Deferred) (σ : GE) (ps : List Tmp) (assign body : Code) (D : Nat) (st : LoopState) (pe : Option Code) : Loop :=
  { state := st, pending := pe, fn, tmps := (act n dd (real σ)).tmps, params := ps.toArray, assign, body, defers := D }
/-- a round, out of its code -/
theorem yld_of {fn : FuncId} {dd : List Deferred} {args : List Value} {R : Bool → World → Prop} (hl : LoopAt w l (recOf P n fn dd σ ps assign body D .ready none)) (hlen : args.length = ps.length) (hin : (ps.all (fun t => Nat.blt t n) && codeIn n true assign && codeIn n true body) = true)
    (h : WC P n ⟨[], some l⟩ assign (fun e c σ' w1 => match e with | .normal => LoopAt w1 l (recOf P n fn dd σ ps assign body D .ready none) ∧ ∀ w2, Le [l] w1 w2 → LoopAt w2 l (recOf P n fn dd σ ps assign body D .busy none) → WC P n c body (rndP (recOf P n fn dd σ ps assign body D) l R) σ' w2 | _ => False) (real (updZG σ ps args)) w) :
    Yld P l args w R := by
  simp only [Bool.and_eq_true] at hin
  obtain ⟨⟨hin1, hin2⟩, hin3⟩ := hin
  refine ⟨_, hl, by simpa [recOf] using hlen, ?_⟩
  have ez := zip_put (n := n) dd ps args (real σ) hin1
  have e0 : (recOf P n fn dd σ ps assign body D .ready none).params = ps.toArray := rfl
  have e1 : (recOf P n fn dd σ ps assign body D .ready none).tmps = (act n dd (real σ)).tmps := rfl
  rw [e0, e1, ez, updZ_real]
  refine roundIn_of_wpIn (F := Fence.wide) (n := 0) trivial ?_
  unfold WC at h
  refine wpIn_mono (h hin2) ?_
  rintro e a1 w1 ⟨d1, σ1, rfl, hq⟩
  cases e <;> try exact hq.elim
  obtain ⟨hl1, hb⟩ := hq
  refine ⟨_, run_beginRound hl1 rfl, ?_⟩
  have hb2 := hb _ (le_putObj w1 l _) (World.putObj_heap_same hl1.lt)
  unfold WC at hb2
  refine wpIn_mono (hb2 hin3) ?_
  rintro e a2 w3 ⟨d2, σ2, rfl, hq⟩
  cases e with
  | normal => exact ⟨_, _, run_endRound none hq.1, _, rfl, hq.2 _ (le_putObj _ _ _) (World.putObj_heap_same hq.1.lt)⟩
  | ret => exact ⟨_, _, run_endRound (some .ret) hq.1, _, rfl, hq.2 _ (le_putObj _ _ _) (World.putObj_heap_same hq.1.lt)⟩
  | exit id => exact ⟨_, _, run_endRound (some (.exit id)) hq.1, _, rfl, hq.2 _ (le_putObj _ _ _) (World.putObj_heap_same hq.1.lt)⟩
  | goto t => exact hq.elim
  | panic ch => exact hq.elim
  | outgrown => exact hq.elim

/-- a loop over a function: an outermost one -/
theorem wcrangef {g : Operand} {gf : FuncId} [hf : Fnc P gf] {cap : List Value} (hg : evl (real σ) g = .func (.func gf) #[] ⟨cap⟩) (hro : ds.ro = none)
    (hcall : ∀ fn l D w1, w.heap.size ≤ D → w.heap.size ≤ l → l ≠ D → Frm w w1 → LoopAt w1 l (recOf P n fn ds.ds σ ps assign body D .ready none) → NoDef w1 D →
      CallsR P gf ((.func (.yield l) #[] #[]) :: cap).toArray w1 fun _ w2 => ∃ st pe, st ≠ .busy ∧ LoopAt w2 l (recOf P n fn ds.ds σ ps assign body D st pe) ∧
        ∀ w3, Le [l] w2 w3 → aftP P Q ⟨{ target := .collected D, args := #[] } :: ds.ds, none⟩ (real σ) w3 pe) :
    WC P n ds (.rangeFunc g ps.toArray assign body) Q (real σ) w := by
  obtain ⟨dd, ro⟩ := ds
  dsimp only at hro hcall
  subst hro
  unfold WC
  intro hin
  simp only [codeIn, Bool.and_eq_true] at hin
  have hgin := hin.1.1.1
  refine wpIn_rangeFunc ?_
  intro fn _
  let w1 := (w.alloc (.deferred (some []))).alloc (.loop (recOf P n fn dd σ ps assign body w.heap.size .ready none))
  have hL : LoopAt w1 (w.heap.size + 1) (recOf P n fn dd σ ps assign body w.heap.size .ready none) := by
    have := World.alloc_heap_new (w.alloc (.deferred (some []))) (.loop (recOf P n fn dd σ ps assign body w.heap.size .ready none))
    rw [World.size_alloc] at this
    exact this
  have hF : Frm w w1 := (frm_alloc w _).trans (frm_alloc _ _)
  have hD : NoDef w1 w.heap.size := by
    have h0 := World.alloc_heap_new w (.deferred (some []))
    exact (Below.heap_alloc (w.alloc (.deferred (some []))) _ w.heap.size (by simp)).trans h0
  have hc := hcall fn (w.heap.size + 1) w.heap.size w1 (Nat.le_refl _) (by omega) (by omega) hF hL hD
  refine ⟨w.heap.size + 1, [{ target := .collected w.heap.size, args := #[] }], w1, { target := .fn (.func gf) ⟨cap⟩, args := #[.func (.yield (w.heap.size + 1)) #[] #[]] }, w1, gf, ((.func (.yield (w.heap.size + 1)) #[] #[]) :: cap).toArray, w1, ?_, ?_, ?_, ?_, ?_, ?_⟩
  · exact run_enterLoop_outer fn _ _ _ _
  · have : (act n dd (real σ)).eval g = .func (.func gf) #[] ⟨cap⟩ := by rw [act_eval hgin, hg]
    simp only [resolve, this, Deferred.ofValue]
    simp [Act.eval]
  · intro f' _; trivial
  · have := run_callFunc (P := P) (f := gf) ((.func (.yield (w.heap.size + 1)) #[] #[]) :: cap).toArray w1
    simpa [invoke] using this
  · intro h; simp [fen, Fence.wide] at h
  · refine callsIn_wide.2 (Calls.mono hc ?_)
    rintro e w2 ⟨v, rfl, st, pe, hst, hl2, hq⟩
    refine ⟨pe, _, run_endLoop hl2 hst, ?_⟩
    have hq2 := hq _ (le_putObj w2 (w.heap.size + 1) (.loop { (recOf P n fn dd σ ps assign body w.heap.size st pe) with state := .exhausted }))
    cases pe with
    | none => exact ⟨_, _, rfl, hq2⟩
    | some c =>
      cases c <;> try exact hq2.elim
      · exact wpIn_exit ⟨_, _, rfl, hq2⟩
      · exact wpIn_ret ⟨_, _, rfl, hq2⟩
end
section
variable {P : Program} {Q : Exit → Ctx → Env → World → Prop} {c : Ctx} {σ : Env} {w : World} {rec : LoopState → Option Code → Loop} {l : Nat} {R : Bool → World → Prop} {i : Nat}
theorem rnd_normal (hl : LoopAt w l (rec .busy none)) (h : ∀ w', Le [l] w w' → LoopAt w' l (rec .ready none) → R true w') : rndP rec l R .normal c σ w := ⟨hl, h⟩
theorem rnd_ret (hl : LoopAt w l (rec .busy none)) (h : ∀ w', Le [l] w w' → LoopAt w' l (rec .done (some .ret)) → R false w') : rndP rec l R .ret c σ w := ⟨hl, h⟩
theorem rnd_exit (hl : LoopAt w l (rec .busy none)) (h : ∀ w', Le [l] w w' → LoopAt w' l (rec .done (some (.exit i))) → R false w') : rndP rec l R (.exit i) c σ w := ⟨hl, h⟩
theorem aft_none (h : Q .normal c σ w) : aftP P Q c σ w none := h
theorem aft_ret (h : Q .ret c σ w) : aftP P Q c σ w (some .ret) := h
theorem aft_exit (h : Q (.exit i) c σ w) : aftP P Q c σ w (some (.exit i)) := h
end
attribute [irreducible] rndP aftP
end Go.Sv
