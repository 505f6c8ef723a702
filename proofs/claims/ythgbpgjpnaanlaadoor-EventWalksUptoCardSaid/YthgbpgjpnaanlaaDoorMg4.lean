/-
  Our texts SvIter, SvRunes, SvRunesB, SvMendC, SvPl1, SvLkA, SvLkB, SvLkC, SvLkD, SvLn, SvIn, SvInL, SvInN, SvEvC, SvEvN, SvEvW, SvLkE, SvEvX, SvRf, SvEvY, SvEq, SvTabE, SvEvE, SvEvO, SvEvP, SvEvZ, SvEvQ, SvEvR, SvEvS, joined.
-/
import Derived.Test.YthgbpgjpnaanlaaDoorMg3
import Derived.Laws.Cover4
import Derived.Laws.MakeOwn
import Derived.Lib.LaidTab
import Derived.Laws.StructEq
import Derived.Test.YthgbpgjpnaanlaaDoorRows
/-
  Loops over functions; calls of function values.
-/
set_option linter.unusedSimpArgs false
set_option linter.unusedVariables false
set_option linter.unnecessarySimpa false
namespace Go.Sv
open Go Go.RowKit

/-- a loop's record -/
def LoopAt (w : World) (l : Nat) (r : Loop) : Prop := w.heap[l]? = some (.loop r)
theorem LoopAt.lt {w : World} {l : Nat} {r : Loop} (h : LoopAt w l r) : l < w.heap.size := (Array.getElem?_eq_some_iff.1 h).1
theorem LoopAt.le {w w' : World} {M : List Nat} {l : Nat} {r : Loop} (h : LoopAt w l r) (hl : Le M w w') (hm : l ∉ M) : LoopAt w' l r := (hl.block l h.lt hm).trans h
theorem LoopAt.frm {w w' : World} {l : Nat} {r : Loop} (h : LoopAt w l r) (hl : Frm w w') : LoopAt w' l r := h.le (M := []) hl.le (by simp)
/-- the block of a loop's deferred calls: there are none -/
def NoDef (w : World) (D : Nat) : Prop := w.heap[D]? = some (.deferred (some []))
theorem NoDef.lt {w : World} {D : Nat} (h : NoDef w D) : D < w.heap.size := (Array.getElem?_eq_some_iff.1 h).1
theorem NoDef.le {w w' : World} {M : List Nat} {D : Nat} (h : NoDef w D) (hl : Le M w w') (hm : D ∉ M) : NoDef w' D := (hl.block D h.lt hm).trans h
theorem NoDef.frm {w w' : World} {D : Nat} (h : NoDef w D) (hl : Frm w w') : NoDef w' D := h.le (M := []) hl.le (by simp)
theorem le_putObj (w : World) (l : Nat) (o : Obj) : Le [l] w (w.putObj l o) := ⟨rfl, rfl, rfl, by simp, fun k _ hk => World.putObj_heap_other (by simpa using hk)⟩

/-- yield, called with 'args': it answers a bool, and R holds then -/
def Yld (P : Program) (l : Nat) (args : List Value) (w : World) (R : Bool → World → Prop) : Prop :=
  ∃ r, LoopAt w l r ∧ args.toArray.size = r.params.size ∧ RoundIn Fence.wide 0 P l r.fn ((r.params.zip args.toArray).foldl (fun tmps (t, a) => tmps.setIfInBounds t a) r.tmps) r.assign r.body w fun e w' => ∃ b, e = .returned (.bool b) ∧ R b w'
theorem Yld.mono {P : Program} {l : Nat} {args : List Value} {w : World} {R R' : Bool → World → Prop} (h : Yld P l args w R) (hr : ∀ b w', R b w' → R' b w') : Yld P l args w R' := by
  obtain ⟨r, h1, h2, h3⟩ := h
  exact ⟨r, h1, h2, h3.mono fun _ _ ⟨b, he, hb⟩ => ⟨b, he, hr _ _ hb⟩⟩

theorem roundIn_fen {ro : Option Nat} {m n : Nat} {P : Program} {l : Nat} {f : FuncId} {tmps : Array Value} {assign body : Code} {w : World} {R : Ending → World → Prop} (h : RoundIn Fence.wide m P l f tmps assign body w R) : RoundIn (fen ro) n P l f tmps assign body w R := by
  refine ⟨fen_fn ro f, fun c cs _ => ?_⟩
  obtain ⟨e, w', hR, hs⟩ := h.2 c cs (room_wide _)
  cases ro <;> exact ⟨e, w', hR, hs⟩

section
variable {P : Program} {n : Nat} {ds : Ctx} {ops : Array Oper} {Q : Exit → Ctx → Env → World → Prop} {rest : List Oper} {σ : GE} {w : World} {v : Value} {d : Nat} {ty : TypeId} {pos : String} {af : Array Edge} {l : Nat} {xs : List Operand} {ats : Array TypeId} {x : Operand}
theorem run_call_yield {σ : Env} {dd : Option Tmp} {g : Option (Nat × Bool)} {r : Loop} {args : List Value} (hx : evl σ x = .func (.yield l) #[] #[]) (ha : xs.map (evl σ) = args) (hl : LoopAt w l r) (hs : args.toArray.size = r.params.size) :
    (execOp (evl σ) ⟨dd, .call ⟨.value x, xs.toArray, ats⟩, ty, pos, af, g⟩).run P w = .ok (.round l r.fn ((r.params.zip args.toArray).foldl (fun tmps (t, a) => tmps.setIfInBounds t a) r.tmps) r.assign r.body) w := by
  subst ha
  simp only [execOp, resolve, hx, Deferred.ofValue]
  simp only [Sem.run_bind, Sem.run_pure, Result.andThen_ok, invoke]
  have := run_yield (P := P) hl hs
  simpa using this
/-- a call of yield -/
theorem wlyield {args : List Value} {R : Bool → World → Prop} (hy : Yld P l args w R) (h : ∀ b w', R b w' → WL P n ds ops Q rest (real (updG σ d ⟨.bool b, true⟩)) w')
    (hx : evl (real σ) x = .func (.yield l) #[] #[] := by rfl) (ha : xs.map (evl (real σ)) = args := by first | rfl | exact am1 rfl | exact am2 rfl rfl) :
    WL P n ds ops Q (⟨some d, .call ⟨.value x, xs.toArray, ats⟩, ty, pos, af, none⟩ :: rest) (real σ) w := by
  obtain ⟨r, h1, h2, h3⟩ := hy
  refine WL_upon (by simp [Region.wanted]) fun hin K hK _ => ?_
  have hd := operIn_dst hin
  rw [run_call_yield hx ha h1 h2, Oper.uponIn_round]
  refine ⟨fun hx => (by rw [fen_depth] at hx; cases hx), roundIn_fen (m := 0) (h3.mono ?_)⟩
  rintro e w' ⟨b, rfl, hb⟩
  show K _ _
  rw [act_put hd]
  have := h b w' hb
  rw [← real_upd] at this
  exact hK _ _ this
/-- a call of a function value -/
theorem run_call_fv {σ : Env} {dd : Option Tmp} {g : Option (Nat × Bool)} {f : FuncId} [hf : Fnc P f] {first cap args : List Value} (hx : evl σ x = .func (.func f) ⟨first⟩ ⟨cap⟩) (ha : xs.map (evl σ) = args) :
    (execOp (evl σ) ⟨dd, .call ⟨.value x, xs.toArray, ats⟩, ty, pos, af, g⟩).run P w = .ok (.enter f (first ++ args ++ cap).toArray) w := by
  subst ha
  simp only [execOp, resolve, hx, Deferred.ofValue]
  simp only [Sem.run_bind, Sem.run_pure, Result.andThen_ok, invoke]
  have := run_callFunc (P := P) (f := f) (first ++ xs.map (evl σ) ++ cap).toArray w
  simpa using this
theorem wlcallv {f : FuncId} [hf : Fnc P f] {first cap args : List Value} {R : Value → World → Prop} (hc : CallsR P f (first ++ args ++ cap).toArray w R) (h : ∀ v w', R v w' → WL P n ds ops Q rest (real (updG σ d ⟨v, true⟩)) w')
    (hx : evl (real σ) x = .func (.func f) ⟨first⟩ ⟨cap⟩ := by rfl) (ha : xs.map (evl (real σ)) = args := by first | rfl | exact am1 rfl | exact am2 rfl rfl) :
    WL P n ds ops Q (⟨some d, .call ⟨.value x, xs.toArray, ats⟩, ty, pos, af, none⟩ :: rest) (real σ) w :=
  WL_enter (S := fun _ _ => False) (by simp [Region.wanted]) (run_call_fv hx ha) (Calls.mono hc fun _ _ h => .inl h) (fun v w' hR => by have := h v w' hR; rw [← real_upd] at this; exact this) fun _ _ h => h.elim
end

/-! ## the statement -/
/-- what a round leaves of the record -/
def rndP (rec : LoopState → Option Code → Loop) (l : Nat) (R : Bool → World → Prop) : Exit → Ctx → Env → World → Prop
  | .normal, _, _, w => LoopAt w l (rec .busy none) ∧ ∀ w', Le [l] w w' → LoopAt w' l (rec .ready none) → R true w'
  | .ret, _, _, w => LoopAt w l (rec .busy none) ∧ ∀ w', Le [l] w w' → LoopAt w' l (rec .done (some .ret)) → R false w'
  | .exit id, _, _, w => LoopAt w l (rec .busy none) ∧ ∀ w', Le [l] w w' → LoopAt w' l (rec .done (some (.exit id))) → R false w'
  | _, _, _, _ => False
/-- what follows the loop, by what a round left it for -/
def aftP (P : Program) (Q : Exit → Ctx → Env → World → Prop) (c : Ctx) (σ : Env) (w : World) : Option Code → Prop
  | none => Q .normal c σ w
  | some .ret => Q .ret c σ w
  | some (.exit id) => Q (.exit id) c σ w
  | some _ => False
section
variable {P : Program} {n : Nat} {ds : Ctx} {Q : Exit → Ctx → Env → World → Prop} {σ : GE} {w : World} {l D : Nat} {assign body : Code} {ps : List Tmp}
/-- the frame's slots with yield's arguments -/
def updZ (σ : Env) : List Tmp → List Value → Env
  | p :: ps, v :: vs => updZ (upd σ p v) ps vs
  | _, _ => σ
theorem zip_put (dd : List Deferred) : ∀ (ps : List Tmp) (vs : List Value) (σ : Env), ps.all (fun t => Nat.blt t n) = true →
    (ps.toArray.zip vs.toArray).foldl (fun tmps (t, a) => tmps.setIfInBounds t a) (act n dd σ).tmps = (act n dd (updZ σ ps vs)).tmps := by
  intro ps vs σ h
  rw [← Array.foldl_toList]
  have e : (ps.toArray.zip vs.toArray).toList = ps.zip vs := by simp
  rw [e]
  clear e
  induction ps generalizing vs σ with
  | nil => simp [updZ]
  | cons p ps ih =>
    cases vs with
    | nil => simp [updZ]
    | cons v vs =>
      simp only [List.all_cons, Bool.and_eq_true] at h
      simp only [List.zip_cons_cons, List.foldl_cons, updZ]
      have := act_put (ds := dd) (σ := σ) (d := some p) (v := v) (n := n) h.1
      have e2 : (act n dd σ).tmps.setIfInBounds p v = (act n dd (upd σ p v)).tmps := congrArg Act.tmps this
      rw [e2]
      exact ih vs (upd σ p v) h.2
def updZG (σ : GE) : List Tmp → List Value → GE
  | p :: ps, v :: vs => updZG (updG σ p ⟨v, true⟩) ps vs
  | _, _ => σ
theorem updZ_real : ∀ (ps : List Tmp) (vs : List Value) (σ : GE), updZ (real σ) ps vs = real (updZG σ ps vs)
  | [], _, σ => by simp [updZ, updZG]
  | _ :: _, [], σ => by simp [updZ, updZG]
  | p :: ps, v :: vs, σ => by
    simp only [updZ, updZG]
    rw [show upd (real σ) p v = real (updG σ p ⟨v, true⟩) from real_upd σ p ⟨v, true⟩]
    exact updZ_real ps vs _

/-- what the record of a loop is, but for how it stands -/
def recOf (P : Program) (n : Nat) (fn : FuncId) (dd : List Deferred) (σ : GE) (ps : List Tmp) (assign body : Code) (D : Nat) (st : LoopState) (pe : Option Code) : Loop :=
  { state := st, pending := pe, fn, tmps := (act n dd (real σ)).tmps, params := ps.toArray, assign, body, defers := D }
/-- a round, out of its code -/
theorem yld_of {fn : FuncId} {dd : List Deferred} {args : List Value} {R : Bool → World → Prop} (hl : LoopAt w l (recOf P n fn dd σ ps assign body D .ready none)) (hlen : args.length = ps.length) (hin : (ps.all (fun t => Nat.blt t n) && codeIn n true assign && codeIn n true body) = true)
    (h : WC P n ⟨[], some l⟩ assign (fun e c σ' w1 => match e with | .normal => LoopAt w1 l (recOf P n fn dd σ ps assign body D .ready none) ∧ ∀ w2, Le [l] w1 w2 → LoopAt w2 l (recOf P n fn dd σ ps assign body D .busy none) → WC P n c body (rndP (recOf P n fn dd σ ps assign body D) l R) σ' w2 | _ => False) (real (updZG σ ps args)) w) :
    Yld P l args w R := by
  simp only [Bool.and_eq_true] at hin
  obtain ⟨⟨hin1, hin2⟩, hin3⟩ := hin
  refine ⟨_, hl, by simpa [recOf] using hlen, ?_⟩
  have ez := zip_put (n := n) dd ps args (real σ) hin1
  have e0 : (recOf P n fn dd σ ps assign body D .ready none).params = ps.toArray := rfl
  have e1 : (recOf P n fn dd σ ps assign body D .ready none).tmps = (act n dd (real σ)).tmps := rfl
  rw [e0, e1, ez, updZ_real]
  refine roundIn_of_wpIn (F := Fence.wide) (n := 0) trivial ?_
  unfold WC at h
  refine wpIn_mono (h hin2) ?_
  rintro e a1 w1 ⟨d1, σ1, rfl, hq⟩
  cases e <;> try exact hq.elim
  obtain ⟨hl1, hb⟩ := hq
  refine ⟨_, run_beginRound hl1 rfl, ?_⟩
  have hb2 := hb _ (le_putObj w1 l _) (World.putObj_heap_same hl1.lt)
  unfold WC at hb2
  refine wpIn_mono (hb2 hin3) ?_
  rintro e a2 w3 ⟨d2, σ2, rfl, hq⟩
  cases e with
  | normal => exact ⟨_, _, run_endRound none hq.1, _, rfl, hq.2 _ (le_putObj _ _ _) (World.putObj_heap_same hq.1.lt)⟩
  | ret => exact ⟨_, _, run_endRound (some .ret) hq.1, _, rfl, hq.2 _ (le_putObj _ _ _) (World.putObj_heap_same hq.1.lt)⟩
  | exit id => exact ⟨_, _, run_endRound (some (.exit id)) hq.1, _, rfl, hq.2 _ (le_putObj _ _ _) (World.putObj_heap_same hq.1.lt)⟩
  | goto t => exact hq.elim
  | panic ch => exact hq.elim
  | outgrown => exact hq.elim

/-- a loop over a function: an outermost one -/
theorem wcrangef {g : Operand} {gf : FuncId} [hf : Fnc P gf] {cap : List Value} (hg : evl (real σ) g = .func (.func gf) #[] ⟨cap⟩) (hro : ds.ro = none)
    (hcall : ∀ fn l D w1, w.heap.size ≤ D → w.heap.size ≤ l → l ≠ D → Frm w w1 → LoopAt w1 l (recOf P n fn ds.ds σ ps assign body D .ready none) → NoDef w1 D →
      CallsR P gf ((.func (.yield l) #[] #[]) :: cap).toArray w1 fun _ w2 => ∃ st pe, st ≠ .busy ∧ LoopAt w2 l (recOf P n fn ds.ds σ ps assign body D st pe) ∧
        ∀ w3, Le [l] w2 w3 → aftP P Q ⟨{ target := .collected D, args := #[] } :: ds.ds, none⟩ (real σ) w3 pe) :
    WC P n ds (.rangeFunc g ps.toArray assign body) Q (real σ) w := by
  obtain ⟨dd, ro⟩ := ds
  dsimp only at hro hcall
  subst hro
  unfold WC
  intro hin
  simp only [codeIn, Bool.and_eq_true] at hin
  have hgin := hin.1.1.1
  refine wpIn_rangeFunc ?_
  intro fn _
  let w1 := (w.alloc (.deferred (some []))).alloc (.loop (recOf P n fn dd σ ps assign body w.heap.size .ready none))
  have hL : LoopAt w1 (w.heap.size + 1) (recOf P n fn dd σ ps assign body w.heap.size .ready none) := by
    have := World.alloc_heap_new (w.alloc (.deferred (some []))) (.loop (recOf P n fn dd σ ps assign body w.heap.size .ready none))
    rw [World.size_alloc] at this
    exact this
  have hF : Frm w w1 := (frm_alloc w _).trans (frm_alloc _ _)
  have hD : NoDef w1 w.heap.size := by
    have h0 := World.alloc_heap_new w (.deferred (some []))
    exact (Below.heap_alloc (w.alloc (.deferred (some []))) _ w.heap.size (by simp)).trans h0
  have hc := hcall fn (w.heap.size + 1) w.heap.size w1 (Nat.le_refl _) (by omega) (by omega) hF hL hD
  refine ⟨w.heap.size + 1, [{ target := .collected w.heap.size, args := #[] }], w1, { target := .fn (.func gf) ⟨cap⟩, args := #[.func (.yield (w.heap.size + 1)) #[] #[]] }, w1, gf, ((.func (.yield (w.heap.size + 1)) #[] #[]) :: cap).toArray, w1, ?_, ?_, ?_, ?_, ?_, ?_⟩
  · exact run_enterLoop_outer fn _ _ _ _
  · have : (act n dd (real σ)).eval g = .func (.func gf) #[] ⟨cap⟩ := by rw [act_eval hgin, hg]
    simp only [resolve, this, Deferred.ofValue]
    simp [Act.eval]
  · intro f' _; trivial
  · have := run_callFunc (P := P) (f := gf) ((.func (.yield (w.heap.size + 1)) #[] #[]) :: cap).toArray w1
    simpa [invoke] using this
  · intro h; simp [fen, Fence.wide] at h
  · refine callsIn_wide.2 (Calls.mono hc ?_)
    rintro e w2 ⟨v, rfl, st, pe, hst, hl2, hq⟩
    refine ⟨pe, _, run_endLoop hl2 hst, ?_⟩
    have hq2 := hq _ (le_putObj w2 (w.heap.size + 1) (.loop { (recOf P n fn dd σ ps assign body w.heap.size st pe) with state := .exhausted }))
    cases pe with
    | none => exact ⟨_, _, rfl, hq2⟩
    | some c =>
      cases c <;> try exact hq2.elim
      · exact wpIn_exit ⟨_, _, rfl, hq2⟩
      · exact wpIn_ret ⟨_, _, rfl, hq2⟩
end
section
variable {P : Program} {Q : Exit → Ctx → Env → World → Prop} {c : Ctx} {σ : Env} {w : World} {rec : LoopState → Option Code → Loop} {l : Nat} {R : Bool → World → Prop} {i : Nat}
theorem rnd_normal (hl : LoopAt w l (rec .busy none)) (h : ∀ w', Le [l] w w' → LoopAt w' l (rec .ready none) → R true w') : rndP rec l R .normal c σ w := ⟨hl, h⟩
theorem rnd_exit (hl : LoopAt w l (rec .busy none)) (h : ∀ w', Le [l] w w' → LoopAt w' l (rec .done (some (.exit i))) → R false w') : rndP rec l R (.exit i) c σ w := ⟨hl, h⟩
theorem aft_none (h : Q .normal c σ w) : aftP P Q c σ w none := h
theorem aft_exit (h : Q (.exit i) c σ w) : aftP P Q c σ w (some (.exit i)) := h
end
attribute [irreducible] rndP aftP
end Go.Sv

/-
  Package utf: All, Runes.
-/
set_option linter.unusedSimpArgs false
set_option linter.unusedVariables false
set_option linter.unnecessarySimpa false
namespace Go.Proofs.YthgbpgjpnaanlaaDoor
open Go Go.Sv Go.RowKit

/-- what All answers -/
def AllV (w : World) (l : List UInt8) (v : Value) (w' : World) : Prop :=
  Frm w w' ∧ ∃ b q c, v = .func (.func 132) #[] #[ptrAt (pb b) 0] ∧ Own w' b [.slice q l.length c] ∧ Im [] w' q (bs l) ∧ l.length ≤ c ∧ w.heap.size ≤ b ∧ ∀ x ∈ rb q, w.heap.size ≤ x
end Go.Proofs.YthgbpgjpnaanlaaDoor

/-
  Package utf: Runes, Mend.
-/
set_option linter.unusedSimpArgs false
set_option linter.unusedVariables false
set_option linter.unnecessarySimpa false
namespace Go.Proofs.YthgbpgjpnaanlaaDoor
open Go Go.Sv Go.RowKit

theorem Im.only {w : World} {p : Option Addr} {l : List Value} {M : List Nat} (h : Im [] w p l) (hM : ∀ b ∈ rb p, b < w.heap.size → b ∉ M) : Im M w p l := by
  rcases h with h | ⟨a, rfl, h1, h2, _⟩
  · exact .inl h
  · exact .inr ⟨a, rfl, h1, h2, hM _ (by simp [rb]) h2⟩

end Go.Proofs.YthgbpgjpnaanlaaDoor

/-
  Package utf: Mend.
-/
set_option linter.unusedSimpArgs false
set_option linter.unusedVariables false
set_option linter.unnecessarySimpa false
namespace Go.Proofs.YthgbpgjpnaanlaaDoor
open Go Go.Sv Go.RowKit

section
variable {P : Program} {w : World} {ty t t' e : TypeId} {pos : String} {af : Array Edge} {x : Operand} {p : Option Addr} {c : Nat}
end
section
variable {P : Program} {n : Nat} {ds : Ctx} {ops : Array Oper} {Q : Exit → Ctx → Env → World → Prop} {rest : List Oper} {σ : GE} {w : World} {d : Nat} {ty t t' e : TypeId} {pos : String} {af : Array Edge} {x : Operand}
end

end Go.Proofs.YthgbpgjpnaanlaaDoor

/-
  Runes as bytes, read again.
-/
set_option linter.unusedSimpArgs false
set_option linter.unusedVariables false
set_option linter.unnecessarySimpa false
namespace Go.Proofs.YthgbpgjpnaanlaaDoor
open Go Go.Sv Go.RowKit

end Go.Proofs.YthgbpgjpnaanlaaDoor

/-
  Package link: schemes; what is stripped.
-/
set_option linter.unusedSimpArgs false
set_option linter.unusedVariables false
set_option linter.unnecessarySimpa false
namespace Go.Sv
open Go Go.RowKit
section
variable {P : Program} {n : Nat} {ds : Ctx} {ops : Array Oper} {Q : Exit → Ctx → Env → World → Prop} {rest : List Oper} {σ : GE} {w : World} {d : Nat} {ty t e : TypeId} {pos : String} {af : Array Edge} {x y : Operand} {zv : Value} {size bytes c : Nat} {kl kc : IntKind}
/-- make of no elements, with room for c -/
theorem wlmake0 [hu : Und P t (.slice e)] [hi : Inf P e zv size bytes] (h : ∀ b w', w.heap.size ≤ b → Row w' size (pb b) 0 c [] → Frm w w' → WL P n ds ops Q rest (real (updG σ d ⟨.slice (pb b) 0 c, true⟩)) w')
    (hx : evl (real σ) x = .int kl 0 := by rfl) (hy : evl (real σ) y = .int kc c := by rfl) (hb : bytes * c ≤ 281474976710656 := by omega) (hc : c ≤ 9223372036854775807 := by omega) :
    WL P n ds ops Q (⟨some d, .makeSlice t x y, ty, pos, af, none⟩ :: rest) (real σ) w := by
  obtain ⟨i, h1, h2, h3, h4⟩ := inf_size (P := P) (t := e)
  subst h3 h4
  have hbI : (i.bytes : Int) * (c : Int) ≤ 281474976710656 := by
    have h : ((i.bytes * c : Nat) : Int) ≤ 281474976710656 := by omega
    rwa [Int.natCast_mul] at h
  have hr := run_make (P := P) w t e i zv hu.ok h1 h2 kl kc 0 c (Int.le_refl _) (by omega) hbI (by omega)
  simp only [Int.toNat_zero, Int.toNat_natCast] at hr
  refine wl (h w.heap.size (w.alloc (.cells (madeCells zv.cells (c * i.size)) e)) (Nat.le_refl _) ?_ (frm_alloc w _)) (Y.val ?_)
  · refine ⟨by simp, .inr ⟨_, 0, _, _, rfl, heap_alloc_new _ _, by omega, hc, by rw [size_madeCells]; omega, by simp⟩⟩
  · simp only [execOp, hx, hy, Sem.run_bind]
    rw [hr]
    rfl
end
end Go.Sv
namespace Go.Proofs.YthgbpgjpnaanlaaDoor
open Go Go.Sv Go.RowKit

def schB (c : Nat) : Bool := letterR c || digitR c || decide (c = 43 ∨ c = 45 ∨ c = 46)













/-- a scheme's end, behind its first byte -/
def schF : List UInt8 → Nat → Nat × Bool
  | [], _ => (0, false)
  | c :: t, i => if c.toNat = 58 then (i, true) else if schB c.toNat then schF t (i + 1) else (0, false)
def schemeR (l : List UInt8) : Nat × Bool := if l = [] ∨ letterR (at0 l 0) = false then (0, false) else schF (l.drop 1) 1
/-- what is left of runes behind leading blanks and controls -/
def cutL (rs : List Nat) : List Nat := rs.dropWhile fun r => decide (r ≤ 32)
def cutT (rs : List Nat) : List Nat := (cutL rs.reverse).reverse
def keepN (rs : List Nat) : List Nat := rs.filter fun r => decide (r ≠ 9 ∧ r ≠ 10 ∧ r ≠ 13)
def stripN (rs : List Nat) : List Nat := keepN (cutT (cutL rs))
def stripR (l : List UInt8) : List UInt8 := (stripN (runesN l)).flatMap encR
end Go.Proofs.YthgbpgjpnaanlaaDoor

/-
  Package link: Scheme, percent escapes.
-/
set_option linter.unusedSimpArgs false
set_option linter.unusedVariables false
set_option linter.unnecessarySimpa false
namespace Go.Sv
open Go Go.RowKit
end Go.Sv
namespace Go.Proofs.YthgbpgjpnaanlaaDoor
open Go Go.Sv Go.RowKit

/-- two hexadecimal digits ahead? -/
def codedR (l : List UInt8) (i : Nat) : Bool := decide (i + 2 < l.length) && hexR (at0 l (i + 1)) && hexR (at0 l (i + 2))































def codedS (t : List UInt8) : Bool := decide (1 < t.length) && hexR (at0 t 0) && hexR (at0 t 1)
def badB : List UInt8 := [34, 60, 62, 92, 94, 96, 123, 124, 125]
def escB (c : Nat) (coded : Bool) : Bool := decide (c ≤ 32) || decide (127 ≤ c) || decide (UInt8.ofNat c ∈ badB) || (decide (c = 37) && !coded)
def digs : List UInt8 := [48, 49, 50, 51, 52, 53, 54, 55, 56, 57, 65, 66, 67, 68, 69, 70]
def pct (c : Nat) : List UInt8 := [37, digs[c / 16]?.getD 0, digs[c % 16]?.getD 0]
def encC (c : Nat) (coded : Bool) : List UInt8 := if escB c coded then pct c else [UInt8.ofNat c]
def encL : List UInt8 → List UInt8
  | [] => []
  | c :: t => encC c.toNat (codedS t) ++ encL t
def encodeR (s : List UInt8) : List UInt8 := encL (mendR s)
end Go.Proofs.YthgbpgjpnaanlaaDoor

/-
  Package link: without percent escapes.
-/
set_option linter.unusedSimpArgs false
set_option linter.unusedVariables false
set_option linter.unnecessarySimpa false
namespace Go.Sv
open Go Go.RowKit
section
variable {P : Program} {σ : GE} {w0 : World} {d : Nat} {ty t e : TypeId} {pos : String} {af : Array Edge} {x : Operand} {zv v : Value} {bytes : Nat} {kk : IntKind} {a : Int} {K : Env → World → Prop}
end
end Go.Sv
namespace Go.Proofs.YthgbpgjpnaanlaaDoor
open Go Go.Sv Go.RowKit

def valN (c : Nat) : Nat := (valueR c).toNat
def decL : List UInt8 → List UInt8
  | [] => []
  | c :: t => if c = 37 ∧ codedS t = true then UInt8.ofNat (16 * valN (at0 t 0) + valN (at0 t 1)) :: decL (t.drop 2) else c :: decL t
termination_by l => l.length
decreasing_by
  · simp; omega
  · simp
def decodeR (s : List UInt8) : List UInt8 := mendR (decL (mendR s))
end Go.Proofs.YthgbpgjpnaanlaaDoor

/-
  Package sieveref12: Encode, Decode.
-/
set_option linter.unusedSimpArgs false
set_option linter.unusedVariables false
set_option linter.unnecessarySimpa false
namespace Go.Sv
open Go Go.RowKit
section
variable {P : Program} {n : Nat} {ds : Ctx} {ops : Array Oper} {Q : Exit → Ctx → Env → World → Prop} {rest : List Oper} {σ : GE} {w : World} {d : Nat} {ty t t' e : TypeId} {pos : String} {af : Array Edge} {x : Operand} {zv : Value} {bytes : Nat}
def enum (vs : List Value) (j : Nat) : List (Nat × Value) := (vs.zipIdx j).map fun p => (p.2, p.1)
end
end Go.Sv
namespace Go.Proofs.YthgbpgjpnaanlaaDoor
open Go Go.Sv Go.RowKit

end Go.Proofs.YthgbpgjpnaanlaaDoor

/-
  Slices written out of elements of many cells; regions that draw their order, by an invariant of the whole state.
-/
set_option linter.unusedSimpArgs false
set_option linter.unusedVariables false
set_option linter.unnecessarySimpa false
namespace Go.Sv
open Go Go.RowKit
theorem fill_rows (size : Nat) : ∀ (vs : List (List Value)) (j : Nat) (z : List Value), (∀ v ∈ vs, v.length = size) → (j + vs.length) * size ≤ z.length →
    Instr.fill (fun i => some (i * size, size)) z.toArray (enum (vs.map fun l => .agg l.toArray) j) = some (z.take (j * size) ++ vs.flatten ++ z.drop ((j + vs.length) * size)).toArray
  | [], j, z, _, _ => by simp [enum, Instr.fill]
  | v :: vs, j, z, hv, hj => by
    have h1 := hv v List.mem_cons_self
    simp only [List.length_cons] at hj
    have hj1 : (j + 1 + vs.length) * size ≤ z.length := by rw [show j + 1 + vs.length = j + (vs.length + 1) from by omega]; exact hj
    have hle : j * size + size ≤ z.length := by
      refine Nat.le_trans ?_ hj1
      rw [← Nat.succ_mul]
      exact Nat.mul_le_mul_right _ (by omega)
    have hlen : (setSeg z (j * size) v).length = z.length := by simp only [setSeg, List.length_append, List.length_take, List.length_drop, h1]; omega
    have ih := fill_rows size vs (j + 1) (setSeg z (j * size) v) (fun u hu => hv u (List.mem_cons_of_mem _ hu)) (by rw [hlen]; exact hj1)
    simp only [enum, List.map_cons, List.zipIdx_cons, Instr.fill]
    have hu : (Value.agg v.toArray).cells = v.toArray := rfl
    generalize Value.agg v.toArray = u at hu
    have hcond : ¬ ((u.cells.size ≠ size || j * size + u.cells.size > z.toArray.size) = true) := by simp [hu, h1]; omega
    simp only [hcond, if_false]
    have hf := foldl_setSeg (j * size) v 0 z.toArray (by simp [h1]; omega)
    have hf2 : u.cells.zipIdx.foldl (fun cs (x : Value × Nat) => cs.setIfInBounds (j * size + x.2) x.1) z.toArray = (setSeg z (j * size) v).toArray := by
      rw [hu, ← Array.foldl_toList]
      simpa [Array.toList_zipIdx] using hf
    rw [show (fun cs (x : Value × Nat) => match x with | (c, k) => cs.setIfInBounds (j * size + k) c) = (fun (cs : Array Value) (x : Value × Nat) => cs.setIfInBounds (j * size + x.2) x.1) from rfl, hf2]
    rw [enum] at ih
    rw [ih]
    congr 1
    have e1 : (setSeg z (j * size) v).take ((j + 1) * size) = z.take (j * size) ++ v := by
      simp only [setSeg]
      rw [Nat.succ_mul, List.take_left' (by simp only [List.length_append, List.length_take, h1]; omega)]
    have e2 : (setSeg z (j * size) v).drop ((j + 1 + vs.length) * size) = z.drop ((j + (vs.length + 1)) * size) := by
      simp only [setSeg, h1]
      rw [List.drop_append, List.drop_eq_nil_of_le (by simp only [List.length_append, List.length_take, h1]; rw [Nat.min_eq_left (by omega), ← Nat.succ_mul]; exact Nat.mul_le_mul_right _ (by omega)), List.nil_append, List.drop_drop]
      congr 1
      simp only [List.length_append, List.length_take, h1]
      have : (j + 1 + vs.length) * size = j * size + size + vs.length * size := by rw [Nat.add_mul, Nat.succ_mul]
      have h2 : (j + (vs.length + 1)) * size = j * size + size + vs.length * size := by rw [← Nat.add_assoc, Nat.add_mul, Nat.add_mul]; omega
      rw [Nat.min_eq_left (by omega), this, h2]
      omega
    rw [e1, e2]
    simp
section
variable {P : Program} {n : Nat} {ds : Ctx} {ops : Array Oper} {Q : Exit → Ctx → Env → World → Prop} {rest : List Oper} {σ : GE} {w : World} {d : Nat} {ty t t' e : TypeId} {pos : String} {af : Array Edge} {x : Operand} {zv : Value} {size bytes : Nat}
/-- a slice written out, of structs -/
theorem wlbsr [hu : Und P t (.slice e)] [hi : Inf P e zv size bytes] {ps : List (Nat × Operand)} (vs : List (List Value)) (k : Nat) (h : ∀ b w', w.heap.size ≤ b → Own w' b vs.flatten → Frm w w' → WL P n ds ops Q rest (real (updG σ d ⟨.slice (pb b) k k, true⟩)) w')
    (hps : ps.map (fun p => (p.1, evl (real σ) p.2)) = enum (vs.map fun l => .agg l.toArray) 0 := by rfl) (hk : vs.length = k := by rfl) (h1 : ∀ v ∈ vs, v.length = size := by simp) (hz : zv.cells.size = size := by rfl) (hk1 : k * size ≤ 16777216 := by decide) (hk0 : k * size ≠ 0 := by decide) :
    WL P n ds ops Q (⟨some d, .buildSlice t k ps.toArray, ty, pos, af, none⟩ :: rest) (real σ) w := by
  subst hk
  have hfl : ∀ l : List (List Value), (∀ v ∈ l, v.length = size) → l.flatten.length = l.length * size := by
    intro l
    induction l with
    | nil => simp
    | cons v l ih => intro h; simp only [List.flatten_cons, List.length_append, List.length_cons, Nat.succ_mul]; rw [h v List.mem_cons_self, ih fun u hu => h u (List.mem_cons_of_mem _ hu)]; omega
  refine wl (h w.heap.size (w.alloc (.cells vs.flatten.toArray e)) (Nat.le_refl _) (by have := own_alloc w vs.flatten.toArray e; simpa using this) (frm_alloc _ _)) (Y.val ?_)
  have hf := fill_rows size vs 0 ((Array.range (vs.length * size)).map (zv.cells[· % zv.cells.size]!)).toList h1 (by simp)
  have hpa : (ps.toArray.map fun (x : Nat × Operand) => match x with | (i, x) => (i, evl (real σ) x)).toList = enum (vs.map fun l => .agg l.toArray) 0 := by rw [← hps]; simp
  simp only [execOp, Instr.buildSlice, Sem.run_bind, underlying, run_program, Result.andThen_ok, hu.ok, Sem.run_pure, run_sizeOf (P := P) (t := e)]
  rw [if_neg (by omega), if_neg hk0]
  simp only [Sem.run_bind, Sem.run_pure, Result.andThen_ok, run_zeroValue (P := P) (t := e)]
  rw [hpa]
  simp only [Array.toArray_toList, Nat.zero_mul, Nat.zero_add] at hf
  rw [hf]
  have hz0 : List.drop (vs.length * size) (List.map (fun x => zv.cells[x % zv.cells.size]!) (List.range (vs.length * size))) = [] := List.drop_eq_nil_of_le (by simp)
  simp [newRow, hz0]
end

/-! ## Regions that draw their order, by an invariant -/
def fwdB (ops : Array Oper) : Bool := (List.range ops.size).all fun j => match ops[j]? with
  | some o => o.after.all fun e => !Region.binds .any e || decide (e.on < j)
  | none => true
theorem ready_of_fwd {ops : Array Oper} (hf : fwdB ops = true) {listed : Array Bool} (hsz : listed.size = ops.size) (hr : Region.ready .any ops listed = []) : ∀ k, k < ops.size → fl listed k = true := by
  intro k
  induction k using Nat.strongRecOn with
  | _ k ih =>
    intro hk
    cases hL : fl listed k with
    | true => rfl
    | false =>
      exfalso
      have hmem : k ∈ Region.ready .any ops listed := by
        refine mem_ready.2 ⟨?_, ops[k], by simp [hk], ?_⟩
        · simp only [fl, Array.getD_eq_getD_getElem?, show k < listed.size from by omega, Array.getElem?_eq_getElem, Option.getD_some] at hL ⊢
          exact hL
        · intro e he hb
          simp only [fwdB, List.all_eq_true, List.mem_range] at hf
          have h1 := hf k hk
          simp only [hk, Array.getElem?_eq_getElem] at h1
          have h2 := Array.all_eq_true_iff_forall_mem.1 h1 e he
          simp only [hb, Bool.not_true, Bool.false_or, decide_eq_true_eq] at h2
          exact ih e.on h2 (by omega)
      rw [hr] at hmem
      cases hmem
/-- what comes of an operation, whatever it yields -/
def comes (P : Program) (T : Value → World → Prop) : Result Next → Prop
  | .ok (.value u) w' => T u w'
  | .ok .skip w' => T undef w'
  | .ok (.enter f args) w' => Calls P f args w' (fun e w'' => ∃ v, e = .returned v ∧ T v w'')
  | _ => False
def StepI (P : Program) (ops : Array Oper) (S : (Nat → Bool) → Env → World → Prop) (k : Nat) (o : Oper) : Prop := ∀ L σ w, Up ops o k L → S L σ w →
  (Region.wanted o (yl ops σ) = true ∧ comes P (fun v w' => S (on L k) (updO σ o.dst v) w') ((execOp (evl σ) o).run P w)) ∨ (Region.wanted o (yl ops σ) = false ∧ S (on L k) (updO σ o.dst undef) w)
def StepsI (P : Program) (ops : Array Oper) (S : (Nat → Bool) → Env → World → Prop) : Nat → List Oper → Prop
  | _, [] => True
  | k, o :: l => StepI P ops S k o ∧ StepsI P ops S (k + 1) l
theorem stepsI_get {P : Program} {ops : Array Oper} {S : (Nat → Bool) → Env → World → Prop} : ∀ {l : List Oper} {k : Nat}, StepsI P ops S k l → ∀ j o, l[j]? = some o → StepI P ops S (k + j) o
  | [], _, _, j, o, h => by simp at h
  | x :: l, k, hs, 0, o, h => by simp only [List.getElem?_cons_zero, Option.some.injEq] at h; subst h; exact hs.1
  | x :: l, k, hs, j + 1, o, h => by
    have := stepsI_get hs.2 j o (by simpa using h)
    rwa [show k + 1 + j = k + (j + 1) from by omega] at this
section
variable {P : Program} {n : Nat} {ds : Ctx} {Q : Exit → Ctx → Env → World → Prop} {S : (Nat → Bool) → Env → World → Prop} {σ : Env} {w : World}
theorem comes_of_Y {o : Oper} {v : Value} {w w' : World} {T : Value → World → Prop} (hy : Y P σ o w v w') (hT : T v w') : comes P T ((execOp (evl σ) o).run P w) := by
  unfold Y at hy
  rcases hy with hy | ⟨hy, rfl⟩
  · rw [hy]; exact hT
  · rw [hy]; exact hT
end
end Go.Sv

/-
  Packages names and sieveref04: which names are in the set of void elements; texts parted by blanks.
-/
set_option linter.unusedSimpArgs false
set_option linter.unusedVariables false
set_option linter.unnecessarySimpa false
namespace Go.Proofs.YthgbpgjpnaanlaaDoor
open Go Go.Sv Go.RowKit

def strs (l : List (List UInt8)) : List Value := l.map fun s => str s
theorem strs_len (l : List (List UInt8)) : (strs l).length = l.length := by simp [strs]
theorem strs_get {l : List (List UInt8)} {i : Nat} (h : i < l.length) : (strs l)[i]? = some (str l[i]) := by simp [strs, h]
theorem strs_app (l m : List (List UInt8)) : strs (l ++ m) = strs l ++ strs m := by simp [strs]
theorem strs_snoc (l : List (List UInt8)) (x : List UInt8) : strs l ++ [str x] = strs (l ++ [x]) := (strs_app l [x]).symm
theorem strs_one (l : List (List UInt8)) : ∀ u ∈ strs l, u.oneCell' = true := by
  intro u hu
  obtain ⟨x, _, rfl⟩ := List.mem_map.1 hu
  rfl

/-- the table of blanks holds what its initialiser lays -/
def Asc (w : World) : Prop := Lib.TabIs Tryd.prog w "strings.asciiSpace" .u8 Lib.asciiSpaceTab
theorem gAsc : Tryd.prog.globalNamed "strings.asciiSpace" = some 0 := by kernel_rfl
theorem Asc.frm {w w' : World} (h : Asc w) (hf : Frm w w') : Asc w' := by
  unfold Asc Lib.TabIs World.var? at h ⊢
  rw [gAsc] at h ⊢
  simp only [Option.bind_some] at h ⊢
  have hlt : 0 < w.heap.size := by
    rcases Nat.lt_or_ge 0 w.heap.size with h' | h'
    · exact h'
    · rw [Array.getElem?_eq_none h'] at h; cases h
  rw [hf.block _ hlt]
  exact h

/-! ## sieveref04: Fields -/
def blkR (c : UInt8) : Bool := decide (c = 9 ∨ c = 10 ∨ c = 12 ∨ c = 32)
def fgo : List UInt8 → List UInt8 → List (List UInt8)
  | cur, [] => if cur = [] then [] else [cur]
  | cur, b :: l => if blkR b then (if cur = [] then fgo [] l else cur :: fgo [] l) else fgo (cur ++ [b]) l
def fieldsR (s : List UInt8) : List (List UInt8) := fgo [] s
theorem refBlank_ok (c : Int) (w : World) : PureC Tryd.prog 129 #[i32 c] w (.bool (decide (c = 9 ∨ c = 10 ∨ c = 12 ∨ c = 32))) := by
  refine enter (l := [i32 c]) Tryd.func129 rfl Tryd.ntmps129 (by kernel_rfl) rfl ?_
  refine sgo ?_
  (first | refine fp1 (.inl rfl) rfl rfl ?_ | refine fp2 (.inl rfl) rfl rfl rfl ?_ | refine fp3 (.inl rfl) rfl rfl rfl rfl ?_ | refine fp0 (.inr rfl) rfl ?_ | refine fp0 (.inl rfl) rfl ?_ | refine fp1 (.inr rfl) rfl rfl ?_); refine ⟨?_, by (first | exact Frm.refl _ | assumption | exact Go.Sv.Sep.frm (by assumption) | (refine Frm.trans ?_ (by assumption); first | exact Frm.refl _ | assumption))⟩; (try simp only [realB, rv_true, Nat.reduceBEq, cond_true, cond_false, entG, real_lif, updGL])
  congr 1
  simp only [pkb_or, Bool.decide_or, Bool.or_assoc]
theorem refBlankB_ok (c : UInt8) (w : World) : PureC Tryd.prog 109 #[byt c.toNat] w (.bool (blkR c)) := by
  refine enter (l := [byt c.toNat]) Tryd.func109 rfl Tryd.ntmps109 (by kernel_rfl) rfl ?_
  refine sgo ?_
  refine wlpure (refBlank_ok c.toNat _) fun w1 hf1 => ?_
  refine sgo ?_
  (first | refine fp1 (.inl rfl) rfl rfl ?_ | refine fp2 (.inl rfl) rfl rfl rfl ?_ | refine fp3 (.inl rfl) rfl rfl rfl rfl ?_ | refine fp0 (.inr rfl) rfl ?_ | refine fp0 (.inl rfl) rfl ?_ | refine fp1 (.inr rfl) rfl rfl ?_); refine ⟨?_, by (first | exact Frm.refl _ | assumption | exact Go.Sv.Sep.frm (by assumption) | (refine Frm.trans ?_ (by assumption); first | exact Frm.refl _ | assumption))⟩; (try simp only [realB, rv_true, Nat.reduceBEq, cond_true, cond_false, entG, real_lif, updGL])
  congr 1
  unfold blkR
  refine decide_eq_decide.2 ?_
  simp only [← UInt8.toNat_inj, show UInt8.toNat 9 = 9 from rfl, show UInt8.toNat 10 = 10 from rfl, show UInt8.toNat 12 = 12 from rfl, show UInt8.toNat 32 = 32 from rfl]
  omega
theorem fgo_blk {s : List UInt8} {a i : Nat} (hai : a ≤ i) (hi : i < s.length) (h : blkR s[i] = true) : fgo ((s.drop a).take (i - a)) (s.drop i) = (if a < i then [(s.drop a).take (i - a)] else []) ++ fgo [] (s.drop (i + 1)) := by
  rw [List.drop_eq_getElem_cons hi, fgo, if_pos h]
  by_cases e : a < i
  · rw [if_pos e, if_neg (by intro h; have := congrArg List.length h; simp at this; omega)]; rfl
  · rw [if_neg e, if_pos (by rw [show i - a = 0 by omega]; rfl)]; rfl
theorem fgo_no {s : List UInt8} {a i : Nat} (hai : a ≤ i) (hi : i < s.length) (h : blkR s[i] = false) : fgo ((s.drop a).take (i - a)) (s.drop i) = fgo ((s.drop a).take (i + 1 - a)) (s.drop (i + 1)) := by
  rw [List.drop_eq_getElem_cons hi, fgo, if_neg (by simp [h])]
  congr 1
  rw [show i + 1 - a = (i - a) + 1 by omega, List.take_add_one]
  simp [show a + (i - a) = i by omega, hi]
theorem fgo_end {s : List UInt8} {a : Nat} (ha : a ≤ s.length) : fgo ((s.drop a).take (s.length - a)) [] = (if a < s.length then [(s.drop a).take (s.length - a)] else []) := by
  rw [fgo]
  by_cases e : a < s.length
  · rw [if_pos e, if_neg (by intro h; have := congrArg List.length h; simp at this; omega)]
  · rw [if_neg e, if_pos (by rw [show s.length - a = 0 by omega]; rfl)]
set_option maxHeartbeats 2000000 in
theorem refFields_ok (s : List UInt8) (hb : s.length ≤ 1048576) (w : World) :
    CallsR Tryd.prog 84 #[str s] w fun v w' => ∃ q c, v = .slice q (fieldsR s).length c ∧ Sep w w' [pRow 1 q (fieldsR s).length c (strs (fieldsR s))] := by
  refine enter (l := [str s]) Tryd.func84 rfl Tryd.ntmps84 (by kernel_rfl) rfl ?_
  refine sgo ?_
  refine wcloop (X := Nat × Nat × Option Addr × Nat × List (List UInt8)) (fun x => [(0, str s), (3, .slice x.2.2.1 x.2.2.2.2.length x.2.2.2.1), (4, int x.2.1), (5, int x.1)])
    (fun x wr => x.2.1 ≤ x.1 ∧ x.1 ≤ s.length + 1 ∧ x.2.2.2.2.length ≤ x.1 ∧ (x.1 ≤ s.length → x.2.2.2.2 ++ fgo ((s.drop x.2.1).take (x.1 - x.2.1)) (s.drop x.1) = fieldsR s) ∧ (x.1 = s.length + 1 → x.2.2.2.2 = fieldsR s) ∧ Sep w wr [pRow 1 x.2.2.1 x.2.2.2.2.length x.2.2.2.1 (strs x.2.2.2.2)])
    (fun x => s.length + 1 - x.1) (0, 0, none, 0, []) ⟨rfl, rfl, rfl, rfl, trivial⟩ ⟨Nat.le_refl 0, Nat.zero_le _, Nat.le_refl 0, fun _ => by simp [fieldsR], fun h => by simp at h, (Sep.start w).push (Frm.refl w) (Row.nil w 1) (by simp [pRow, rb])⟩ ?_
  rintro ⟨i, a, q, cc, out⟩ wr ρ ⟨hai, hil, hol, hA, hB, hS⟩
  dsimp only at *
  refine sgo ?_
  (show WC _ _ _ _ _ _ _; first | refine WC_dec rfl (fun hc => ?_) (fun hc => ?_) | refine WC_cond rfl (fun hc => ?_) (fun hc => ?_))
  · have hle : i ≤ s.length := by omega
    specialize hA hle
    clear hB hc
    refine sgo ?_
    refine wlcallgp (vals := [byt ((s[i]?.getD 0)).toNat]) (fun _ => refBlankB_ok _ _) fun w1 hf1 => ?_
    replace hS := hS.grow hf1
    refine sgo ?_
    (show WC _ _ _ _ _ _ _; first | refine WC_dec rfl (fun hc => ?_) (fun hc => ?_) | refine WC_cond rfl (fun hc => ?_) (fun hc => ?_))
    · simp only [pkb_and, Bool.and_eq_true, decide_eq_true_eq, Bool.not_eq_true'] at hc
      have hlt : i < s.length := by omega
      have hno : blkR s[i] = false := by have := hc.2; simpa [hlt] using this
      refine sgo ?_
      refine ⟨(i + 1, a, q, cc, out), ⟨rfl, rfl, rfl, rfl, trivial⟩, ⟨(by (try dsimp only); omega), (by (try dsimp only); omega), (by (try dsimp only); omega), fun _ => ?_, fun h => by dsimp only at h; omega, hS⟩, (by (try dsimp only); omega)⟩
      dsimp only
      rw [← hA, fgo_no hai hlt hno]
    · simp only [pkb_and, Bool.and_eq_false_iff, decide_eq_false_iff_not, Bool.not_eq_false'] at hc
      have hnext : out ++ (if a < i then [(s.drop a).take (i - a)] else []) ++ (if i < s.length then fgo [] (s.drop (i + 1)) else []) = fieldsR s := by
        rw [← hA]
        by_cases hlt : i < s.length
        · have hyes : blkR s[i] = true := by
            rcases hc with h | h
            · omega
            · simpa [hlt] using h
          rw [fgo_blk hai hlt hyes, if_pos hlt, List.append_assoc]
        · obtain rfl : i = s.length := by omega
          rw [List.drop_length, fgo_end hai, if_neg hlt, List.append_nil]
      refine sgo ?_
      (show WC _ _ _ _ _ _ _; first | refine WC_dec rfl (fun hc => ?_) (fun hc => ?_) | refine WC_cond rfl (fun hc => ?_) (fun hc => ?_))
      · have hlt : a < i := by omega
        rw [if_pos hlt] at hnext
        clear hc
        refine sgo ?_
        refine sb1s hS fun b2 w2 hS => ?_
        refine sgo ?_
        refine sapp hS 1 (hS.own 0 rfl).sg fun q c w3 hS => ?_
        replace hS := hS.tail
        rw [strs_snoc] at hS
        have hn : out.length + 1 = (out ++ [List.take (i - a) (List.drop a s)]).length := by simp
        rw [hn] at hS ⊢
        refine sgo ?_
        refine ⟨(i + 1, i + 1, q, c, out ++ [(s.drop a).take (i - a)]), ⟨rfl, rfl, rfl, rfl, trivial⟩, ⟨Nat.le_refl _, (by (try dsimp only); omega), (by simp; omega), fun h => ?_, fun h => ?_, ?_⟩, (by (try dsimp only); omega)⟩
        · simp only [Nat.sub_self, List.take_zero]
          rw [if_pos (by omega)] at hnext; exact hnext
        · dsimp only at h
          rw [if_neg (by omega), List.append_nil] at hnext; exact hnext
        · exact hS
      · have hlt : ¬ a < i := by omega
        rw [if_neg hlt, List.append_nil] at hnext
        clear hc
        refine sgo ?_
        refine ⟨(i + 1, i + 1, q, cc, out), ⟨rfl, rfl, rfl, rfl, trivial⟩, ⟨Nat.le_refl _, (by (try dsimp only); omega), (by simp; omega), fun h => ?_, fun h => ?_, hS⟩, (by (try dsimp only); omega)⟩
        · simp only [Nat.sub_self, List.take_zero]
          rw [if_pos (by omega)] at hnext; exact hnext
        · dsimp only at h
          rw [if_neg (by omega), List.append_nil] at hnext; exact hnext
  · obtain rfl : i = s.length + 1 := by omega
    refine sgo ?_
    (first | refine fp1 (.inl rfl) rfl rfl ?_ | refine fp2 (.inl rfl) rfl rfl rfl ?_ | refine fp3 (.inl rfl) rfl rfl rfl rfl ?_ | refine fp0 (.inr rfl) rfl ?_ | refine fp0 (.inl rfl) rfl ?_ | refine fp1 (.inr rfl) rfl rfl ?_)
    rw [← hB rfl]
    exact ⟨q, cc, rfl, hS⟩

/-! ## the sets -/
def voidL : List (List UInt8) := fieldsR [97, 114, 101, 97, 32, 98, 97, 115, 101, 32, 98, 114, 32, 99, 111, 108, 32, 101, 109, 98, 101, 100, 32, 104, 114, 32, 105, 109, 103, 32, 105, 110, 112, 117, 116, 32, 108, 105, 110, 107, 32, 109, 101, 116, 97, 32, 115, 111, 117, 114, 99, 101, 32, 116, 114, 97, 99, 107, 32, 119, 98, 114]
def voidT : List UInt8 := [97, 114, 101, 97, 32, 98, 97, 115, 101, 32, 98, 114, 32, 99, 111, 108, 32, 101, 109, 98, 101, 100, 32, 104, 114, 32, 105, 109, 103, 32, 105, 110, 112, 117, 116, 32, 108, 105, 110, 107, 32, 109, 101, 116, 97, 32, 115, 111, 117, 114, 99, 101, 32, 116, 114, 97, 99, 107, 32, 119, 98, 114]
/-- is a name a void element's? -/
def voidR (n : List UInt8) : Bool := decide (n ∈ voidL)
theorem voidL_len : voidL.length = 13 := by decide
theorem void_fields : Lib.fields (voidT ++ [32]) = voidL := by decide +kernel
theorem isSet_ok (k : Nat) (hk : k < 16) (w : World) : PureC Tryd.prog 87 #[int k] w (.bool true) := by
  refine enter (l := [int k]) Tryd.func87 rfl Tryd.ntmps87 (by kernel_rfl) rfl ?_
  refine sgo ?_
  (first | refine fp1 (.inl rfl) rfl rfl ?_ | refine fp2 (.inl rfl) rfl rfl rfl ?_ | refine fp3 (.inl rfl) rfl rfl rfl rfl ?_ | refine fp0 (.inr rfl) rfl ?_ | refine fp0 (.inl rfl) rfl ?_ | refine fp1 (.inr rfl) rfl rfl ?_); refine ⟨?_, by (first | exact Frm.refl _ | assumption | exact Go.Sv.Sep.frm (by assumption) | (refine Frm.trans ?_ (by assumption); first | exact Frm.refl _ | assumption))⟩; (try simp only [realB, rv_true, Nat.reduceBEq, cond_true, cond_false, entG, real_lif, updGL])
  congr 1
  simp only [pkb_and, Bool.and_eq_true, decide_eq_true_eq]
  omega
end Go.Proofs.YthgbpgjpnaanlaaDoor

/-
  Package names: the sets' names.
-/
set_option linter.unusedSimpArgs false
set_option linter.unusedVariables false
set_option linter.unnecessarySimpa false
namespace Go.Proofs.YthgbpgjpnaanlaaDoor
open Go Go.Sv Go.RowKit
set_option maxHeartbeats 4000000 in
set_option maxRecDepth 100000 in
/-- the sets' names -/
theorem lists_ok (w : World) : CallsR Tryd.prog 89 #[] w fun v w' => Frm w w' ∧ ∃ vs : Array Value, v = .agg vs ∧ vs[0]? = some (str (voidT ++ [32])) := by
  refine enter (l := []) Tryd.func89 rfl Tryd.ntmps89 (by kernel_rfl) rfl ?_
  have hS := Sep.start w
  refine sgo ?_
  refine salloc hS fun b0 w0 hS => ?_
  refine sgo ?_
  refine salloc hS fun b1 w1 hS => ?_
  refine sgo ?_
  replace hS : Sep w w1 [pOwn b1 (strs (List.replicate 16 [])), pOwn b0 (strs (List.replicate 16 []))] := hS
  iterate 15 (refine sst_str hS 0 fun w2 hS => ?_; refine sgo ?_)
  refine sst_str hS 0 fun w2 hS => ?_
  obtain ⟨L, hlen, h1, h0, hS⟩ : ∃ L : List Value, L.length = 16 ∧ (L.all fun c => c.oneCell') = true ∧ L[0]? = some (str (voidT ++ [32])) ∧ Sep w w2 [pOwn b1 L, pOwn b0 (strs (List.replicate 16 []))] := ⟨_, by simp [strs], rfl, rfl, hS⟩
  refine sgo ?_
  refine ssta (vs := L) hS 1 (fun w3 hS => ?_) (hy := by rw [show (Value.agg ⟨L⟩) = .agg ⟨(L.drop 0).take 16⟩ from by rw [List.drop_zero, ← hlen, List.take_length]]; rfl) (hv := ⟨hlen, rfl⟩) (h1 := h1)
  refine sgo ?_
  have ho := hS.own 1 rfl
  refine fpc (l := L) (zv := .agg ⟨strs (List.replicate 16 [])⟩) (.inl rfl) rfl rfl rfl ho (hi := by rw [hlen]; infer_instance) ⟨hS.frm, _, rfl, by simpa using h0⟩
end Go.Proofs.YthgbpgjpnaanlaaDoor

/-
  Packages names and sieveref04: In, of the void elements.
-/
set_option linter.unusedSimpArgs false
set_option linter.unusedVariables false
set_option linter.unnecessarySimpa false
namespace Go.Proofs.YthgbpgjpnaanlaaDoor
open Go Go.Sv Go.RowKit

/-- strings.Fields, of ASCII -/
theorem strFields_ok (s : List UInt8) (hb : s.length ≤ 1048576) (ha : s.all (fun c => decide (c.toNat < 128)) = true) (w : World) (hA : Asc w) :
    CallsR Tryd.prog 88 #[str s] w fun v w' => ∃ b, v = .slice (pb b) (Lib.fields s).length (Lib.fields s).length ∧ Sep w w' [pOwn b (strs (Lib.fields s))] := by
  refine Calls.mono (Tryd.strings_Fields ⟨s.toArray⟩ w (by rw [ByteArray.size]; simp; omega) (fun j b hb => ?_) hA) ?_
  · have hm := List.mem_of_getElem? hb
    have := List.all_eq_true.1 ha b (by simpa using hm)
    simpa using this
  · rintro e w' ⟨rfl, rfl⟩
    refine ⟨_, rfl, w.heap.size, rfl, ?_⟩
    refine (Sep.start w).push (frm_alloc w _) (own_alloc w _ _) (by simp [pOwn])
theorem mem_at {α : Type} {l : List α} {x : α} (h : ∀ i : Nat, (hi : i < l.length) → l[i] ≠ x) : x ∉ l := by
  intro hm
  obtain ⟨i, hi, e⟩ := List.mem_iff_getElem.1 hm
  exact h i hi e
set_option maxHeartbeats 1000000 in
theorem in0_ok (n : List UInt8) (w : World) (hA : Asc w) : PureC Tryd.prog 58 #[str n, int 0] w (.bool (voidR n)) := by
  refine enter (l := [str n, int 0]) Tryd.func58 rfl Tryd.ntmps58 (by kernel_rfl) rfl ?_
  refine sgo ?_
  refine wlpure (isSet_ok 0 (by decide) _) fun w1 hf1 => ?_
  refine sgo ?_
  refine wlcall (lists_ok w1) ?_
  rintro _ w2 ⟨hf2, vs, rfl, h0⟩
  refine sgo ?_
  refine wlcall (strFields_ok (voidT ++ [32]) (by decide) (by decide) w2 ((hA.frm hf1).frm hf2)) ?_
  rintro _ w3 ⟨b, rfl, hS⟩
  rw [void_fields] at hS ⊢
  have hf := hf1.trans hf2
  replace hS : Sep w w3 [pOwn b (strs voidL)] := ⟨hf.trans hS.frm, hS.ok, fun c hc x hx => Nat.le_trans hf.size (hS.low c hc x hx), hS.apart⟩
  refine sgo ?_
  refine wcloop (X := Nat) (fun i => [(0, str n), (13, .slice (pb b) voidL.length voidL.length), (14, int voidL.length), (15, int i)])
    (fun i wr => i ≤ voidL.length ∧ (∀ j, (hj : j < voidL.length) → j < i → voidL[j] ≠ n) ∧ wr = w3) (fun i => voidL.length - i) 0 ⟨rfl, rfl, rfl, rfl, trivial⟩ ⟨Nat.zero_le _, fun _ _ h => absurd h (by omega), rfl⟩ ?_
  rintro i wr ρ ⟨hil, hj, rfl⟩
  refine sgo ?_
  (show WC _ _ _ _ _ _ _; first | refine WC_dec rfl (fun hc => ?_) (fun hc => ?_) | refine WC_cond rfl (fun hc => ?_) (fun hc => ?_))
  · have hlt : i < voidL.length := by omega
    have hvl := voidL_len
    have hg := strs_get hlt
    generalize hx : voidL[i] = x at *
    clear hc
    refine sgo ?_
    (show WC _ _ _ _ _ _ _; first | refine WC_dec rfl (fun hc => ?_) (fun hc => ?_) | refine WC_cond rfl (fun hc => ?_) (fun hc => ?_))
    · refine sgo ?_
      (first | refine fp1 (.inl rfl) rfl rfl ?_ | refine fp2 (.inl rfl) rfl rfl rfl ?_ | refine fp3 (.inl rfl) rfl rfl rfl rfl ?_ | refine fp0 (.inr rfl) rfl ?_ | refine fp0 (.inl rfl) rfl ?_ | refine fp1 (.inr rfl) rfl rfl ?_); refine ⟨?_, by (first | exact Frm.refl _ | assumption | exact Go.Sv.Sep.frm (by assumption) | (refine Frm.trans ?_ (by assumption); first | exact Frm.refl _ | assumption))⟩; (try simp only [realB, rv_true, Nat.reduceBEq, cond_true, cond_false, entG, real_lif, updGL])
      rw [voidR, decide_eq_true]
      rw [← hc, ← hx]; exact List.getElem_mem hlt
    · refine sgo ?_
      refine ⟨i + 1, ⟨rfl, rfl, rfl, rfl, trivial⟩, ⟨hlt, fun j hj' hji => ?_, rfl⟩, (by (try dsimp only); omega)⟩
      rcases Nat.lt_or_ge j i with h | h
      · exact hj j hj' h
      · obtain rfl : j = i := by omega
        rw [hx]; exact hc
  · refine sgo ?_
    (first | refine fp1 (.inl rfl) rfl rfl ?_ | refine fp2 (.inl rfl) rfl rfl rfl ?_ | refine fp3 (.inl rfl) rfl rfl rfl rfl ?_ | refine fp0 (.inr rfl) rfl ?_ | refine fp0 (.inl rfl) rfl ?_ | refine fp1 (.inr rfl) rfl rfl ?_); refine ⟨?_, by (first | exact Frm.refl _ | assumption | exact Go.Sv.Sep.frm (by assumption) | (refine Frm.trans ?_ (by assumption); first | exact Frm.refl _ | assumption))⟩; (try simp only [realB, rv_true, Nat.reduceBEq, cond_true, cond_false, entG, real_lif, updGL])
    rw [voidR, decide_eq_false]
    exact mem_at fun j hj' => hj j hj' (by omega)
set_option maxHeartbeats 1000000 in
theorem text0_ok (w : World) : PureC Tryd.prog 85 #[int 0] w (str voidT) := by
  refine enter (l := [int 0]) Tryd.func85 rfl Tryd.ntmps85 (by kernel_rfl) rfl ?_
  refine sgo ?_
  (first | refine fp1 (.inl rfl) rfl rfl ?_ | refine fp2 (.inl rfl) rfl rfl rfl ?_ | refine fp3 (.inl rfl) rfl rfl rfl rfl ?_ | refine fp0 (.inr rfl) rfl ?_ | refine fp0 (.inl rfl) rfl ?_ | refine fp1 (.inr rfl) rfl rfl ?_); refine ⟨?_, by (first | exact Frm.refl _ | assumption | exact Go.Sv.Sep.frm (by assumption) | (refine Frm.trans ?_ (by assumption); first | exact Frm.refl _ | assumption))⟩; (try simp only [realB, rv_true, Nat.reduceBEq, cond_true, cond_false, entG, real_lif, updGL])
  rfl
set_option maxHeartbeats 1000000 in
theorem refIn0_ok (n : List UInt8) (w : World) : PureC Tryd.prog 53 #[str n, int 0] w (.bool (voidR n)) := by
  refine enter (l := [str n, int 0]) Tryd.func53 rfl Tryd.ntmps53 (by kernel_rfl) rfl ?_
  refine sgo ?_
  (show WC _ _ _ _ _ _ _; first | refine WC_dec rfl (fun hc => ?_) (fun hc => ?_) | refine WC_cond rfl (fun hc => ?_) (fun hc => ?_))
  · subst hc
    refine sgo ?_
    (first | refine fp1 (.inl rfl) rfl rfl ?_ | refine fp2 (.inl rfl) rfl rfl rfl ?_ | refine fp3 (.inl rfl) rfl rfl rfl rfl ?_ | refine fp0 (.inr rfl) rfl ?_ | refine fp0 (.inl rfl) rfl ?_ | refine fp1 (.inr rfl) rfl rfl ?_); refine ⟨?_, by (first | exact Frm.refl _ | assumption | exact Go.Sv.Sep.frm (by assumption) | (refine Frm.trans ?_ (by assumption); first | exact Frm.refl _ | assumption))⟩; (try simp only [realB, rv_true, Nat.reduceBEq, cond_true, cond_false, entG, real_lif, updGL])
    rw [show voidR [] = false from by decide +kernel]
  refine sgo ?_
  refine wlpure (text0_ok _) fun w1 hf1 => ?_
  refine sgo ?_
  refine wlcall (refFields_ok voidT (by decide) w1) ?_
  rintro _ w3 ⟨q, c, rfl, hS⟩
  rw [show fieldsR voidT = voidL from rfl] at hS ⊢
  replace hS : Sep w w3 [pRow 1 q voidL.length c (strs voidL)] := ⟨hf1.trans hS.frm, hS.ok, fun c hc x hx => Nat.le_trans hf1.size (hS.low c hc x hx), hS.apart⟩
  have hq : ∃ a, q = some a := (hS.row 0 rfl).sg.some (by decide)
  clear hc
  refine sgo ?_
  refine wcloop (X := Nat) (fun i => [(0, str n), (11, .slice q voidL.length c), (12, int voidL.length), (13, int i)])
    (fun i wr => i ≤ voidL.length ∧ (∀ j, (hj : j < voidL.length) → j < i → voidL[j] ≠ n) ∧ wr = w3) (fun i => voidL.length - i) 0 ⟨rfl, rfl, rfl, rfl, trivial⟩ ⟨Nat.zero_le _, fun _ _ h => absurd h (by omega), rfl⟩ ?_
  rintro i wr ρ ⟨hil, hj, rfl⟩
  refine sgo ?_
  (show WC _ _ _ _ _ _ _; first | refine WC_dec rfl (fun hc => ?_) (fun hc => ?_) | refine WC_cond rfl (fun hc => ?_) (fun hc => ?_))
  · have hlt : i < voidL.length := by omega
    have hvl := voidL_len
    have hg := strs_get hlt
    generalize hx : voidL[i] = x at *
    clear hc
    refine sgo ?_
    (show WC _ _ _ _ _ _ _; first | refine WC_dec rfl (fun hc => ?_) (fun hc => ?_) | refine WC_cond rfl (fun hc => ?_) (fun hc => ?_))
    · refine sgo ?_
      (first | refine fp1 (.inl rfl) rfl rfl ?_ | refine fp2 (.inl rfl) rfl rfl rfl ?_ | refine fp3 (.inl rfl) rfl rfl rfl rfl ?_ | refine fp0 (.inr rfl) rfl ?_ | refine fp0 (.inl rfl) rfl ?_ | refine fp1 (.inr rfl) rfl rfl ?_); refine ⟨?_, by (first | exact Frm.refl _ | assumption | exact Go.Sv.Sep.frm (by assumption) | (refine Frm.trans ?_ (by assumption); first | exact Frm.refl _ | assumption))⟩; (try simp only [realB, rv_true, Nat.reduceBEq, cond_true, cond_false, entG, real_lif, updGL])
      rw [voidR, decide_eq_true]
      rw [← hc, ← hx]; exact List.getElem_mem hlt
    · refine sgo ?_
      refine ⟨i + 1, ⟨rfl, rfl, rfl, rfl, trivial⟩, ⟨hlt, fun j hj' hji => ?_, rfl⟩, (by (try dsimp only); omega)⟩
      rcases Nat.lt_or_ge j i with h | h
      · exact hj j hj' h
      · obtain rfl : j = i := by omega
        rw [hx]; exact hc
  · refine sgo ?_
    (first | refine fp1 (.inl rfl) rfl rfl ?_ | refine fp2 (.inl rfl) rfl rfl rfl ?_ | refine fp3 (.inl rfl) rfl rfl rfl rfl ?_ | refine fp0 (.inr rfl) rfl ?_ | refine fp0 (.inl rfl) rfl ?_ | refine fp1 (.inr rfl) rfl rfl ?_); refine ⟨?_, by (first | exact Frm.refl _ | assumption | exact Go.Sv.Sep.frm (by assumption) | (refine Frm.trans ?_ (by assumption); first | exact Frm.refl _ | assumption))⟩; (try simp only [realB, rv_true, Nat.reduceBEq, cond_true, cond_false, entG, real_lif, updGL])
    rw [voidR, decide_eq_false]
    exact mem_at fun j hj' => hj j hj' (by omega)
end Go.Proofs.YthgbpgjpnaanlaaDoor

/-
  Packages event and sieveref18: which events may be.
-/
set_option linter.unusedSimpArgs false
set_option linter.unusedVariables false
set_option linter.unnecessarySimpa false
namespace Go.Sv
open Go Go.RowKit
section
variable {P : Program} {n : Nat} {ds : Ctx} {ops : Array Oper} {Q : Exit → Ctx → Env → World → Prop} {rest : List Oper} {σ : GE} {w : World} {d : Nat} {ty t : TypeId} {pos : String} {af : Array Edge} {zv : Value} {size bytes : Nat} {j dj : Nat} {want b c : Bool}
theorem bm2 {σ : Env} {x y : Operand} {v u : Value} {i k : Nat} (h : evl σ x = v) (h2 : evl σ y = u) : [(i, x), (k, y)].map (fun p => (p.1, evl σ p.2)) = [(i, v), (k, u)] := by simp [h, h2]
theorem bm3 {σ : Env} {x y z : Operand} {v u r : Value} {i k m : Nat} (h : evl σ x = v) (h2 : evl σ y = u) (h3 : evl σ z = r) : [(i, x), (k, y), (m, z)].map (fun p => (p.1, evl σ p.2)) = [(i, v), (k, u), (m, r)] := by simp [h, h2, h3]
/-- a guarded literal of a struct -/
theorem wlgbuildv {pl : List (Nat × Nat)} {ps : List (Nat × Operand)} {vals : List (Nat × Value)} {cells : List Value} [hf : Flds P t pl] [hi : Inf P t zv size bytes]
    (hv : (b && (c == want)) = true → ps.map (fun p => (p.1, evl (real σ) p.2)) = vals)
    (h : WL P n ds ops Q rest (real (updG σ d ⟨.agg cells.toArray, b && (c == want)⟩)) w)
    (hc : fillL pl zv.cells.toList vals = some cells := by
      simp [Go.Sv.fillL, Go.Sv.setSeg, Go.Value.cells]
      first | done | rfl)
    (hj : (ops[j]?).bind (·.dst) = some dj := by rfl) (hσ : σ dj = ⟨.bool c, b⟩ := by rfl) :
    WL P n ds ops Q (⟨some d, .build t ps.toArray, ty, pos, af, some (j, want)⟩ :: rest) (real σ) w :=
  wlg h hj hσ fun hg => y_build (by rw [hv hg]; exact hc)
end
end Go.Sv
namespace Go.Proofs.YthgbpgjpnaanlaaDoor
open Go Go.Sv Go.RowKit

/-- may an event be? -/
def evR (e : Ev) : Bool :=
  if e.kind = 0 then !decide (e.text = []) && validR e.text && decide (e.name = []) && decide (e.attrs.length = 0)
  else if e.kind = 1 then decide (e.text = []) && mayR e.start && !voidR e.name
  else if e.kind = 3 then decide (e.text = []) && mayR e.start && voidR e.name
  else if e.kind = 2 then decide (e.text = []) && decide (e.attrs.length = 0) && mayR e.close
  else false

set_option maxHeartbeats 1000000 in
theorem evStart_ok (e : Ev) (p : Option Addr) (c : Nat) (hs : e.small) (w : World) (hi : Im [] w p (e.attrs.flatMap At.cells)) :
    PureC Tryd.prog 57 #[.agg ⟨e.cells p c⟩] w (.bool (mayR e.start)) := by
  obtain ⟨k, nm, tx, es⟩ := e
  refine enter (l := [.agg ⟨Ev.cells ⟨k, nm, tx, es⟩ p c⟩]) Tryd.func57 rfl Tryd.ntmps57 (by kernel_rfl) rfl ?_
  have hS := Sep.start w
  refine sgo ?_
  refine sbox (v := .agg ⟨Ev.cells ⟨k, nm, tx, es⟩ p c⟩) hS fun b w1 hS => ?_
  replace hS : Sep w w1 [pOwn b [int k, str nm, str tx, .slice p es.length c]] := hS
  refine sgo ?_
  refine wlbuild ?_
  refine wlpure (check_ok (Ev.start ⟨k, nm, tx, es⟩) p c (Ev.start_small hs) w1 (hi.sep hS)) fun w2 hf2 => ?_
  replace hS := hS.grow hf2
  refine sgo ?_
  (first | refine fp1 (.inl rfl) rfl rfl ?_ | refine fp2 (.inl rfl) rfl rfl rfl ?_ | refine fp3 (.inl rfl) rfl rfl rfl rfl ?_ | refine fp0 (.inr rfl) rfl ?_ | refine fp0 (.inl rfl) rfl ?_ | refine fp1 (.inr rfl) rfl rfl ?_); refine ⟨?_, by (first | exact Frm.refl _ | assumption | exact Go.Sv.Sep.frm (by assumption) | (refine Frm.trans ?_ (by assumption); first | exact Frm.refl _ | assumption))⟩; (try simp only [realB, rv_true, Nat.reduceBEq, cond_true, cond_false, entG, real_lif, updGL])
  cases mayR (Ev.start ⟨k, nm, tx, es⟩) <;> rfl
set_option maxHeartbeats 4000000 in
theorem evCheck_ok (e : Ev) (p : Option Addr) (c : Nat) (hs : e.small) (w : World) (hA : Asc w) (hi : Im [] w p (e.attrs.flatMap At.cells)) :
    PureC Tryd.prog 33 #[.agg ⟨e.cells p c⟩] w (int (if evR e then 0 else 180)) := by
  have hev : evR e = evR e := rfl
  obtain ⟨k, nm, tx, es⟩ := e
  have htx := hs.text
  dsimp only at htx hi
  conv at hev => lhs; unfold evR
  dsimp only at hev
  refine enter (l := [.agg ⟨Ev.cells ⟨k, nm, tx, es⟩ p c⟩]) Tryd.func33 rfl Tryd.ntmps33 (by kernel_rfl) rfl ?_
  have hS := Sep.start w
  refine sgo ?_
  refine sbox (v := .agg ⟨Ev.cells ⟨k, nm, tx, es⟩ p c⟩) hS fun b w1 hS => ?_
  replace hS : Sep w w1 [pOwn b [int k, str nm, str tx, .slice p es.length c]] := hS
  refine sgo ?_
  (show WC _ _ _ _ _ _ _; first | refine WC_dec rfl (fun hc => ?_) (fun hc => ?_) | refine WC_cond rfl (fun hc => ?_) (fun hc => ?_))
  · replace hc : k = 0 := hc
    subst hc
    refine sgo ?_
    refine wls2bg (s := tx) (by omega) fun q cc w2 hI hf2 => ?_
    refine wlcallgp (vals := [.slice (pb q) tx.length cc]) (fun hg => valid_ok tx (pb q) tx.length cc rfl (hI hg).1 (by omega) [] w2 (hI hg).2.2) fun w3 hf3 => ?_
    rw [valid_eq]
    replace hS := (hS.grow hf2).grow hf3
    refine sgo ?_
    have hB : pkb (pkb (pkb (decide (tx ≠ [])) (validR tx) false) (decide (nm = [])) false) (decide ((es.length : Int) = 0)) false = evR ⟨0, nm, tx, es⟩ := by
      rw [← hev, if_pos rfl]; simp [pkb_and]
    rw [hB]
    cases evR ⟨0, nm, tx, es⟩ <;> (refine sgo ?_; (first | refine fp1 (.inl rfl) rfl rfl ?_ | refine fp2 (.inl rfl) rfl rfl rfl ?_ | refine fp3 (.inl rfl) rfl rfl rfl rfl ?_ | refine fp0 (.inr rfl) rfl ?_ | refine fp0 (.inl rfl) rfl ?_ | refine fp1 (.inr rfl) rfl rfl ?_); refine ⟨?_, by (first | exact Frm.refl _ | assumption | exact Go.Sv.Sep.frm (by assumption) | (refine Frm.trans ?_ (by assumption); first | exact Frm.refl _ | assumption))⟩; (try simp only [realB, rv_true, Nat.reduceBEq, cond_true, cond_false, entG, real_lif, updGL]); first | rfl | (simp; done))
  replace hc : ¬ k = 0 := hc
  rw [if_neg hc] at hev
  have hk0 := hc
  clear hc
  refine sgo ?_
  (show WC _ _ _ _ _ _ _; first | refine WC_dec rfl (fun hc => ?_) (fun hc => ?_) | refine WC_cond rfl (fun hc => ?_) (fun hc => ?_))
  · replace hc : k = 1 := hc
    subst hc
    refine sgo ?_
    refine wlcallgp (vals := [.agg ⟨Ev.cells ⟨1, nm, tx, es⟩ p c⟩]) (fun hg => evStart_ok ⟨1, nm, tx, es⟩ p c hs w1 (hi.sep hS)) fun w3 hf3 => ?_
    replace hS := hS.grow hf3
    refine sgo ?_
    refine wlcallgp (vals := [str nm, int 0]) (fun hg => in0_ok nm w3 (hA.frm hS.frm)) fun w4 hf4 => ?_
    replace hS := hS.grow hf4
    refine sgo ?_
    have hB : pkb (pkb (decide (tx = [])) (mayR (Ev.start ⟨1, nm, tx, es⟩)) false) (!voidR nm) false = evR ⟨1, nm, tx, es⟩ := by
      rw [← hev, if_pos rfl]; simp [pkb_and]
    rw [hB]
    cases evR ⟨1, nm, tx, es⟩ <;> (refine sgo ?_; (first | refine fp1 (.inl rfl) rfl rfl ?_ | refine fp2 (.inl rfl) rfl rfl rfl ?_ | refine fp3 (.inl rfl) rfl rfl rfl rfl ?_ | refine fp0 (.inr rfl) rfl ?_ | refine fp0 (.inl rfl) rfl ?_ | refine fp1 (.inr rfl) rfl rfl ?_); refine ⟨?_, by (first | exact Frm.refl _ | assumption | exact Go.Sv.Sep.frm (by assumption) | (refine Frm.trans ?_ (by assumption); first | exact Frm.refl _ | assumption))⟩; (try simp only [realB, rv_true, Nat.reduceBEq, cond_true, cond_false, entG, real_lif, updGL]); first | rfl | (simp; done))
  replace hc : ¬ k = 1 := hc
  rw [if_neg hc] at hev
  have hk1 := hc
  clear hc
  refine sgo ?_
  (show WC _ _ _ _ _ _ _; first | refine WC_dec rfl (fun hc => ?_) (fun hc => ?_) | refine WC_cond rfl (fun hc => ?_) (fun hc => ?_))
  · replace hc : k = 3 := hc
    subst hc
    refine sgo ?_
    refine wlcallgp (vals := [.agg ⟨Ev.cells ⟨3, nm, tx, es⟩ p c⟩]) (fun hg => evStart_ok ⟨3, nm, tx, es⟩ p c hs w1 (hi.sep hS)) fun w3 hf3 => ?_
    replace hS := hS.grow hf3
    refine sgo ?_
    refine wlcallgp (vals := [str nm, int 0]) (fun hg => in0_ok nm w3 (hA.frm hS.frm)) fun w4 hf4 => ?_
    replace hS := hS.grow hf4
    refine sgo ?_
    have hB : pkb (pkb (decide (tx = [])) (mayR (Ev.start ⟨3, nm, tx, es⟩)) false) (voidR nm) false = evR ⟨3, nm, tx, es⟩ := by
      rw [← hev, if_pos rfl]; simp [pkb_and]
    rw [hB]
    cases evR ⟨3, nm, tx, es⟩ <;> (refine sgo ?_; (first | refine fp1 (.inl rfl) rfl rfl ?_ | refine fp2 (.inl rfl) rfl rfl rfl ?_ | refine fp3 (.inl rfl) rfl rfl rfl rfl ?_ | refine fp0 (.inr rfl) rfl ?_ | refine fp0 (.inl rfl) rfl ?_ | refine fp1 (.inr rfl) rfl rfl ?_); refine ⟨?_, by (first | exact Frm.refl _ | assumption | exact Go.Sv.Sep.frm (by assumption) | (refine Frm.trans ?_ (by assumption); first | exact Frm.refl _ | assumption))⟩; (try simp only [realB, rv_true, Nat.reduceBEq, cond_true, cond_false, entG, real_lif, updGL]); first | rfl | (simp; done))
  replace hc : ¬ k = 3 := hc
  rw [if_neg hc] at hev
  have hk3 := hc
  clear hc
  refine sgo ?_
  (show WC _ _ _ _ _ _ _; first | refine WC_dec rfl (fun hc => ?_) (fun hc => ?_) | refine WC_cond rfl (fun hc => ?_) (fun hc => ?_))
  · replace hc : k = 2 := hc
    subst hc
    refine sgo ?_
    refine wlgbuildv (vals := [(0, int 2), (1, str nm)]) (fun hg => bm2 rfl (evG hg)) ?_
    refine wlcallgp (vals := [.agg ⟨Tok.cells (Ev.close ⟨2, nm, tx, es⟩) none 0⟩]) (fun hg => check_ok (Ev.close ⟨2, nm, tx, es⟩) none 0 (Ev.close_small hs) w1 (Im.nil _ _ _)) fun w3 hf3 => ?_
    replace hS := hS.grow hf3
    refine sgo ?_
    have hB : pkb (pkb (decide (tx = [])) (decide ((es.length : Int) = 0)) false) (decide ((if mayR (Ev.close ⟨2, nm, tx, es⟩) = true then (0 : Int) else 70) = 0)) false = evR ⟨2, nm, tx, es⟩ := by
      rw [← hev, if_pos rfl]; cases mayR (Ev.close ⟨2, nm, tx, es⟩) <;> simp [pkb_and]
    rw [hB]
    cases evR ⟨2, nm, tx, es⟩ <;> (refine sgo ?_; (first | refine fp1 (.inl rfl) rfl rfl ?_ | refine fp2 (.inl rfl) rfl rfl rfl ?_ | refine fp3 (.inl rfl) rfl rfl rfl rfl ?_ | refine fp0 (.inr rfl) rfl ?_ | refine fp0 (.inl rfl) rfl ?_ | refine fp1 (.inr rfl) rfl rfl ?_); refine ⟨?_, by (first | exact Frm.refl _ | assumption | exact Go.Sv.Sep.frm (by assumption) | (refine Frm.trans ?_ (by assumption); first | exact Frm.refl _ | assumption))⟩; (try simp only [realB, rv_true, Nat.reduceBEq, cond_true, cond_false, entG, real_lif, updGL]); first | rfl | (simp; done))
  · replace hc : ¬ k = 2 := hc
    rw [if_neg hc] at hev
    rw [← hev]
    refine sgo ?_
    (first | refine fp1 (.inl rfl) rfl rfl ?_ | refine fp2 (.inl rfl) rfl rfl rfl ?_ | refine fp3 (.inl rfl) rfl rfl rfl rfl ?_ | refine fp0 (.inr rfl) rfl ?_ | refine fp0 (.inl rfl) rfl ?_ | refine fp1 (.inr rfl) rfl rfl ?_); refine ⟨?_, by (first | exact Frm.refl _ | assumption | exact Go.Sv.Sep.frm (by assumption) | (refine Frm.trans ?_ (by assumption); first | exact Frm.refl _ | assumption))⟩; (try simp only [realB, rv_true, Nat.reduceBEq, cond_true, cond_false, entG, real_lif, updGL])
    rfl

set_option maxHeartbeats 4000000 in
theorem refEvCheck_ok (e : Ev) (p : Option Addr) (c : Nat) (hs : e.small) (w : World) (hi : Im [] w p (e.attrs.flatMap At.cells)) :
    PureC Tryd.prog 27 #[.agg ⟨e.cells p c⟩] w (.bool (evR e)) := by
  have hev : evR e = evR e := rfl
  obtain ⟨k, nm, tx, es⟩ := e
  have htx := hs.text
  dsimp only at htx hi
  conv at hev => lhs; unfold evR
  dsimp only at hev
  refine enter (l := [.agg ⟨Ev.cells ⟨k, nm, tx, es⟩ p c⟩]) Tryd.func27 rfl Tryd.ntmps27 (by kernel_rfl) rfl ?_
  have hS := Sep.start w
  refine sgo ?_
  refine sbox (v := .agg ⟨Ev.cells ⟨k, nm, tx, es⟩ p c⟩) hS fun b w1 hS => ?_
  replace hS : Sep w w1 [pOwn b [int k, str nm, str tx, .slice p es.length c]] := hS
  refine sgo ?_
  (show WC _ _ _ _ _ _ _; first | refine WC_dec rfl (fun hc => ?_) (fun hc => ?_) | refine WC_cond rfl (fun hc => ?_) (fun hc => ?_))
  · replace hc : k = 0 := hc
    subst hc
    refine sgo ?_
    refine wls2bg (s := tx) (by omega) fun q cc w2 hI hf2 => ?_
    refine wlcallgp (vals := [.slice (pb q) tx.length cc]) (fun hg => refValid_ok tx (pb q) tx.length cc rfl (hI hg).1 (by omega) w2 (hI hg).2.2) fun w3 hf3 => ?_
    replace hS := (hS.grow hf2).grow hf3
    refine sgo ?_
    (first | refine fp1 (.inl rfl) rfl rfl ?_ | refine fp2 (.inl rfl) rfl rfl rfl ?_ | refine fp3 (.inl rfl) rfl rfl rfl rfl ?_ | refine fp0 (.inr rfl) rfl ?_ | refine fp0 (.inl rfl) rfl ?_ | refine fp1 (.inr rfl) rfl rfl ?_); refine ⟨?_, by (first | exact Frm.refl _ | assumption | exact Go.Sv.Sep.frm (by assumption) | (refine Frm.trans ?_ (by assumption); first | exact Frm.refl _ | assumption))⟩; (try simp only [realB, rv_true, Nat.reduceBEq, cond_true, cond_false, entG, real_lif, updGL])
    congr 1
    rw [← hev, if_pos rfl]; simp [pkb_and]
  replace hc : ¬ k = 0 := hc
  rw [if_neg hc] at hev
  have hk0 := hc
  clear hc
  refine sgo ?_
  by_cases hk1 : k = 1
  · subst hk1
    refine sgo ?_
    refine wcdraw ?_
    refine qgo ?_
    refine qlg (v := .agg ⟨Tok.cells (Ev.start ⟨1, nm, tx, es⟩) p c⟩) ?_ rfl rfl (fun hg => YQ.ofY fun _ _ => y_build (cells := Tok.cells (Ev.start ⟨1, nm, tx, es⟩) p c) (by rw [bm3 (v := int 1) rfl (evG hg) (evG hg)]; simp [fillL, setSeg, Value.cells]; rfl))
    refine qlcallgp (vals := [.agg ⟨Tok.cells (Ev.start ⟨1, nm, tx, es⟩) p c⟩]) (v := .bool (mayR (Ev.start ⟨1, nm, tx, es⟩))) (fun hg w' hw' => may_ok (Ev.start ⟨1, nm, tx, es⟩) p c (Ev.start_small hs) w' ((hi.sep hS).frm hw')) ?_
    refine qgo ?_
    refine qlcallgp (vals := [str nm, int 0]) (v := .bool (voidR nm)) (fun hg w' hw' => refIn0_ok nm w') ?_
    refine qgo ?_
    refine QL_nil ?_
    intro wd hwd
    replace hS := hS.grow hwd
    refine sgo ?_
    (first | refine fp1 (.inl rfl) rfl rfl ?_ | refine fp2 (.inl rfl) rfl rfl rfl ?_ | refine fp3 (.inl rfl) rfl rfl rfl rfl ?_ | refine fp0 (.inr rfl) rfl ?_ | refine fp0 (.inl rfl) rfl ?_ | refine fp1 (.inr rfl) rfl rfl ?_); refine ⟨?_, by (first | exact Frm.refl _ | assumption | exact Go.Sv.Sep.frm (by assumption) | (refine Frm.trans ?_ (by assumption); first | exact Frm.refl _ | assumption))⟩; (try simp only [realB, rv_true, Nat.reduceBEq, cond_true, cond_false, entG, real_lif, updGL])
    congr 1
    rw [← hev, if_pos rfl]; cases mayR (Ev.start ⟨1, nm, tx, es⟩) <;> cases voidR nm <;> simp [pkb_and]
  rw [if_neg hk1] at hev
  refine wcno ?_ (ht := decide_eq_false hk1)
  refine sgo ?_
  (show WC _ _ _ _ _ _ _; first | refine WC_dec rfl (fun hc => ?_) (fun hc => ?_) | refine WC_cond rfl (fun hc => ?_) (fun hc => ?_))
  · replace hc : k = 3 := hc
    subst hc
    refine sgo ?_
    refine wcdraw ?_
    refine qgo ?_
    refine qlg (v := .agg ⟨Tok.cells (Ev.start ⟨3, nm, tx, es⟩) p c⟩) ?_ rfl rfl (fun hg => YQ.ofY fun _ _ => y_build (cells := Tok.cells (Ev.start ⟨3, nm, tx, es⟩) p c) (by rw [bm3 (v := int 1) rfl (evG hg) (evG hg)]; simp [fillL, setSeg, Value.cells]; rfl))
    refine qlcallgp (vals := [.agg ⟨Tok.cells (Ev.start ⟨3, nm, tx, es⟩) p c⟩]) (v := .bool (mayR (Ev.start ⟨3, nm, tx, es⟩))) (fun hg w' hw' => may_ok (Ev.start ⟨3, nm, tx, es⟩) p c (Ev.start_small hs) w' ((hi.sep hS).frm hw')) ?_
    refine qgo ?_
    refine qlcallgp (vals := [str nm, int 0]) (v := .bool (voidR nm)) (fun hg w' hw' => refIn0_ok nm w') ?_
    refine qgo ?_
    refine QL_nil ?_
    intro wd hwd
    replace hS := hS.grow hwd
    refine sgo ?_
    (first | refine fp1 (.inl rfl) rfl rfl ?_ | refine fp2 (.inl rfl) rfl rfl rfl ?_ | refine fp3 (.inl rfl) rfl rfl rfl rfl ?_ | refine fp0 (.inr rfl) rfl ?_ | refine fp0 (.inl rfl) rfl ?_ | refine fp1 (.inr rfl) rfl rfl ?_); refine ⟨?_, by (first | exact Frm.refl _ | assumption | exact Go.Sv.Sep.frm (by assumption) | (refine Frm.trans ?_ (by assumption); first | exact Frm.refl _ | assumption))⟩; (try simp only [realB, rv_true, Nat.reduceBEq, cond_true, cond_false, entG, real_lif, updGL])
    congr 1
    rw [← hev, if_pos rfl]; cases mayR (Ev.start ⟨3, nm, tx, es⟩) <;> cases voidR nm <;> simp [pkb_and]
  replace hc : ¬ k = 3 := hc
  rw [if_neg hc] at hev
  have hk3 := hc
  clear hc
  refine sgo ?_
  (show WC _ _ _ _ _ _ _; first | refine WC_dec rfl (fun hc => ?_) (fun hc => ?_) | refine WC_cond rfl (fun hc => ?_) (fun hc => ?_))
  · replace hc : k = 2 := hc
    subst hc
    refine sgo ?_
    refine wlgbuildv (vals := [(0, int 2), (1, str nm)]) (fun hg => bm2 rfl (evG hg)) ?_
    refine wlcallgp (vals := [.agg ⟨Tok.cells (Ev.close ⟨2, nm, tx, es⟩) none 0⟩]) (fun hg => may_ok (Ev.close ⟨2, nm, tx, es⟩) none 0 (Ev.close_small hs) w1 (Im.nil _ _ _)) fun w3 hf3 => ?_
    replace hS := hS.grow hf3
    refine sgo ?_
    (first | refine fp1 (.inl rfl) rfl rfl ?_ | refine fp2 (.inl rfl) rfl rfl rfl ?_ | refine fp3 (.inl rfl) rfl rfl rfl rfl ?_ | refine fp0 (.inr rfl) rfl ?_ | refine fp0 (.inl rfl) rfl ?_ | refine fp1 (.inr rfl) rfl rfl ?_); refine ⟨?_, by (first | exact Frm.refl _ | assumption | exact Go.Sv.Sep.frm (by assumption) | (refine Frm.trans ?_ (by assumption); first | exact Frm.refl _ | assumption))⟩; (try simp only [realB, rv_true, Nat.reduceBEq, cond_true, cond_false, entG, real_lif, updGL])
    congr 1
    rw [← hev, if_pos rfl]; cases mayR (Ev.close ⟨2, nm, tx, es⟩) <;> simp [pkb_and]
  · replace hc : ¬ k = 2 := hc
    rw [if_neg hc] at hev
    rw [← hev]
    refine sgo ?_
    (first | refine fp1 (.inl rfl) rfl rfl ?_ | refine fp2 (.inl rfl) rfl rfl rfl ?_ | refine fp3 (.inl rfl) rfl rfl rfl rfl ?_ | refine fp0 (.inr rfl) rfl ?_ | refine fp0 (.inl rfl) rfl ?_ | refine fp1 (.inr rfl) rfl rfl ?_); refine ⟨?_, by (first | exact Frm.refl _ | assumption | exact Go.Sv.Sep.frm (by assumption) | (refine Frm.trans ?_ (by assumption); first | exact Frm.refl _ | assumption))⟩; (try simp only [realB, rv_true, Nat.reduceBEq, cond_true, cond_false, entG, real_lif, updGL])
end Go.Proofs.YthgbpgjpnaanlaaDoor

/-
  How events nest: the plain part; the stack of names.
-/
set_option linter.unusedSimpArgs false
set_option linter.unusedVariables false
set_option linter.unnecessarySimpa false
namespace Go.Sv
open Go Go.RowKit
/-- a cut behind a piece of code -/
theorem wcutt {P : Program} {n : Nat} {ds : Ctx} {K : Ctx → Env → World → Prop} {Q : Exit → Ctx → Env → World → Prop} {σ : Env} {w : World} {a : Code} {X : Type} (sl : X → List (Nat × Value)) (I : X → World → Prop)
    (ha : WC P n ds a (thl ds (fun σ w => ∃ x, Has σ (sl x) ∧ I x w) Q) σ w) (hb : ∀ x w (ρ : GE), I x w → K ds (real (updGL ρ (sl x))) w) : WC P n ds a (thn K Q) σ w := by
  refine WC_mono ha ?_
  intro e c' σ' w' h
  unfold thl at h
  unfold thn
  cases e <;> try exact h
  obtain ⟨rfl, x, h1, h2⟩ := h
  have := hb x w' (lif σ') h2
  rw [← real_updL, updL_has h1] at this
  exact this
/-- two worlds that agree on the first B blocks -/
structure Same (B : Nat) (w w' : World) : Prop where
  os : w'.os = w.os
  tape : w'.tape = w.tape
  output : w'.output = w.output
  size : B ≤ w'.heap.size
  block : ∀ k, k < B → w'.heap[k]? = w.heap[k]?
theorem Same.of_frm {w0 w w' : World} (h : Frm w0 w) (h' : Frm w0 w') : Same w0.heap.size w w' := ⟨h'.os.trans h.os.symm, h'.tape.trans h.tape.symm, h'.output.trans h.output.symm, h'.size, fun k hk => (h'.block k hk).trans (h.block k hk).symm⟩
theorem Same.frm {w w1 w2 : World} (h : Frm w w1) (h' : Same w.heap.size w1 w2) : Frm w w2 := ⟨h'.os.trans h.os, h'.tape.trans h.tape, h'.output.trans h.output, h'.size, fun k hk => (h'.block k hk).trans (h.block k hk)⟩
theorem Same.of_sep {w0 w w' : World} {cs ds : List Plot} (h : Sep w0 w cs) (h' : Sep w0 w' ds) : Same w0.heap.size w w' := Same.of_frm h.frm h'.frm
theorem Own.same {B : Nat} {w w' : World} {b : Nat} {l : List Value} (h : Own w b l) (hs : Same B w w') (hb : b < B) : Own w' b l := h.of_block (hs.block b hb)
/-- what was there before has been written: the pieces stay -/
theorem Sep.rebase {w0 w w' : World} {cs : List Plot} {N : List Nat} (h : Sep w0 w cs) (hl : Le N w w') (hN : ∀ x ∈ N, x < w0.heap.size) : ∃ w1 : World, w1.heap.size = w0.heap.size ∧ Sep w1 w' cs := by
  have hsz : w0.heap.size ≤ w'.heap.size := Nat.le_trans h.frm.size hl.size
  refine ⟨{ w' with heap := w'.heap.extract 0 w0.heap.size }, by simp; omega, ⟨⟨rfl, rfl, rfl, by simp; omega, fun k hk => ?_⟩, fun c hc => ?_, fun c hc x hx => ?_, h.apart⟩⟩
  · simp at hk
    simp [Array.getElem?_extract, Nat.sub_zero]
    intro h1
    omega
  · refine c.loc w w' (h.ok c hc) fun x hx => hl.block x (h.lt hc x hx) fun hm => ?_
    have := hN x hm
    have := h.low c hc x hx
    omega
  · have := h.low c hc x hx
    simp
    omega
end Go.Sv
namespace Go.Proofs.YthgbpgjpnaanlaaDoor
open Go Go.Sv Go.RowKit

/-! ## The plain part -/
structure Lk where
  stack : List (List UInt8)
  most : Nat
  at_ : Nat
  err : Int
  good : Nat
def lkStep (k : Lk) (e : Ev) : Lk :=
  if k.err = 0 then
    if evR e then
      if e.kind = 1 then ⟨k.stack ++ [e.name], max k.most (k.stack.length + 1), 0, 0, k.good + 1⟩
      else if e.kind = 3 then ⟨k.stack, max k.most (k.stack.length + 1), 0, 0, k.good + 1⟩
      else if e.kind = 2 then (if k.stack.getLast? = some e.name then ⟨k.stack.dropLast, k.most, 0, 0, k.good + 1⟩ else { k with at_ := k.good, err := 181 })
      else ⟨k.stack, k.most, 0, 0, k.good + 1⟩
    else { k with at_ := k.good, err := 180 }
  else k
def lk0 : Lk := ⟨[], 0, 0, 0, 0⟩
/-- how events nest -/
def lkR (l : List Ev) : Lk := l.foldl lkStep lk0
theorem lk_bad {k : Lk} (h : k.err ≠ 0) (l : List Ev) : l.foldl lkStep k = k := by
  induction l with
  | nil => rfl
  | cons e l ih => rw [List.foldl_cons, lkStep, if_neg h, ih]
theorem lk_take {l : List Ev} {i : Nat} {e : Ev} (h : l[i]? = some e) : lkR (l.take (i + 1)) = lkStep (lkR (l.take i)) e := by
  rw [List.take_add_one, h, lkR, List.foldl_append]; rfl
theorem lk_split (l : List Ev) (i : Nat) : lkR l = (l.drop i).foldl lkStep (lkR (l.take i)) := by
  conv => lhs; rw [← List.take_append_drop i l, lkR, List.foldl_append]
  rfl
theorem lk_stop {l : List Ev} {i : Nat} (h : (lkR (l.take i)).err ≠ 0) : lkR l = lkR (l.take i) := by rw [lk_split l i, lk_bad h]
theorem lk_ok {l : List Ev} (h : (lkR l).err = 0) : (lkR l).at_ = 0 ∧ (lkR l).good = l.length ∧ (lkR l).stack.length ≤ l.length ∧ (lkR l).most ≤ l.length := by
  have key : ∀ (l : List Ev) (k : Lk), (l.foldl lkStep k).err = 0 → k.at_ = 0 → (l.foldl lkStep k).at_ = 0 ∧ (l.foldl lkStep k).good = k.good + l.length ∧ (l.foldl lkStep k).stack.length ≤ k.stack.length + l.length ∧ (l.foldl lkStep k).most ≤ max k.most k.stack.length + l.length := by
    intro l
    induction l with
    | nil => intro k h1 h2; exact ⟨h2, rfl, Nat.le_refl _, by simp [Nat.le_max_left]⟩
    | cons e l ih =>
      intro k h1 h2
      rw [List.foldl_cons] at h1 ⊢
      have hk : (lkStep k e).err = 0 := by
        apply Decidable.byContradiction
        intro hne
        rw [lk_bad hne] at h1
        exact hne h1
      have hs : (lkStep k e).at_ = 0 ∧ (lkStep k e).good = k.good + 1 ∧ (lkStep k e).stack.length ≤ k.stack.length + 1 ∧ (lkStep k e).most ≤ max k.most k.stack.length + 1 ∧ max (lkStep k e).most (lkStep k e).stack.length ≤ max k.most k.stack.length + 1 := by
        revert hk
        unfold lkStep
        split <;> (try split) <;> (try split) <;> (try split) <;> (try split) <;> (try split) <;> intro hk <;> simp at hk ⊢ <;> omega
      obtain ⟨g1, g2, g3, g4⟩ := ih _ h1 hs.1
      refine ⟨g1, by rw [g2, hs.2.1, List.length_cons]; omega, by rw [List.length_cons]; omega, by rw [List.length_cons]; omega⟩
  have := key l lk0 h rfl
  simpa [lkR, lk0] using this
/-- the first wrong one -/
theorem lk_err {l : List Ev} (h : (lkR l).err ≠ 0) : ∃ i, ∃ hi : i < l.length, (lkR (l.take i)).err = 0 ∧ lkR l = lkStep (lkR (l.take i)) l[i] := by
  have key : ∀ n, n ≤ l.length → (lkR (l.take n)).err = 0 ∨ ∃ i, ∃ hi : i < l.length, (lkR (l.take i)).err = 0 ∧ lkR l = lkStep (lkR (l.take i)) l[i] := by
    intro n
    induction n with
    | zero => intro _; exact .inl rfl
    | succ n ih =>
      intro hn
      rcases ih (by omega) with h1 | h1
      · have hx : l[n]? = some l[n] := List.getElem?_eq_getElem (by omega)
        by_cases h2 : (lkR (l.take (n + 1))).err = 0
        · exact .inl h2
        · exact .inr ⟨n, by omega, h1, by rw [lk_stop h2, lk_take hx]⟩
      · exact .inr h1
  rcases key l.length (Nat.le_refl _) with h1 | h1
  · rw [List.take_length] at h1; exact absurd h1 h
  · exact h1
/-- the wrong one, said -/
theorem lk_wrong {k : Lk} {e : Ev} (h0 : k.err = 0) (h : (lkStep k e).err ≠ 0) : lkStep k e = { k with at_ := k.good, err := if evR e then 181 else 180 } := by
  revert h
  unfold lkStep
  rw [if_pos h0]
  cases he : evR e with
  | false => intro _; rfl
  | true =>
    simp only [if_true]
    split
    · intro h; exact absurd rfl h
    · split
      · intro h; exact absurd rfl h
      · split
        · split
          · intro h; exact absurd rfl h
          · intro _; rfl
        · intro h; exact absurd rfl h
theorem lk_bound (l : List Ev) : (lkR l).stack.length ≤ l.length ∧ (lkR l).most ≤ l.length ∧ (lkR l).at_ ≤ l.length ∧ (lkR l).good ≤ l.length := by
  by_cases h : (lkR l).err = 0
  · obtain ⟨h1, h2, h3, h4⟩ := lk_ok h
    omega
  · obtain ⟨i, hi, h0, e⟩ := lk_err h
    have := lk_ok h0
    rw [e] at h ⊢
    rw [lk_wrong h0 h]
    simp only [List.length_take] at this
    dsimp only
    omega
/-- one that is right -/
theorem lk_right {k : Lk} {e : Ev} (h0 : k.err = 0) (h : (lkStep k e).err = 0) : evR e = true ∧ lkStep k e = ⟨if e.kind = 1 then k.stack ++ [e.name] else if e.kind = 2 then k.stack.dropLast else k.stack, if e.kind = 1 ∨ e.kind = 3 then max k.most (k.stack.length + 1) else k.most, 0, 0, k.good + 1⟩ := by
  revert h
  unfold lkStep
  rw [if_pos h0]
  cases he : evR e with
  | false => intro h; simp at h
  | true =>
    simp only [if_true]
    by_cases h1 : e.kind = 1
    · simp [h1]
    · rw [if_neg h1]
      by_cases h3 : e.kind = 3
      · simp [h3]
      · rw [if_neg h3]
        by_cases h2 : e.kind = 2
        · rw [if_pos h2]
          split
          · simp [h2]
          · intro h; simp at h
        · simp [h1, h2, h3]

/-! ## A stack of names in memory -/
/-- a stack: where it lies, and its names -/
def pStk (b : Nat) (p : Option Addr) (c : Nat) (st : List (List UInt8)) : List Plot := [pOwn b [.slice p st.length c], pRow 1 p st.length c (strs st)]
set_option maxHeartbeats 1000000 in
theorem push_ok (b : Nat) (p : Option Addr) (c : Nat) (st : List (List UInt8)) (x : List UInt8) (hb : st.length ≤ 1048576) (w0 w : World) (cs : List Plot) (hS : Sep w0 w (pOwn b [.slice p st.length c] :: pRow 1 p st.length c (strs st) :: cs)) :
    CallsR Tryd.prog 67 #[ptrAt (pb b) 0, str x] w fun _ w' => ∃ p' c', Sep w0 w' (pOwn b [.slice p' (st ++ [x]).length c'] :: pRow 1 p' (st ++ [x]).length c' (strs (st ++ [x])) :: cs) := by
  refine enter (l := [ptrAt (pb b) 0, str x]) Tryd.func67 rfl Tryd.ntmps67 (by kernel_rfl) rfl ?_
  refine sgo ?_
  refine sb1s hS fun b2 w2 hS => ?_
  refine sgo ?_
  refine sapp hS 2 (hS.own 0 rfl).sg fun p' c' w3 hS => ?_
  rw [strs_snoc] at hS
  have hn : st.length + 1 = (st ++ [x]).length := by simp
  rw [hn] at hS ⊢
  refine sgo ?_
  refine sst_slice hS 1 fun w4 hS => ?_
  refine sgo ?_
  (first | refine fp1 (.inl rfl) rfl rfl ?_ | refine fp2 (.inl rfl) rfl rfl rfl ?_ | refine fp3 (.inl rfl) rfl rfl rfl rfl ?_ | refine fp0 (.inr rfl) rfl ?_ | refine fp0 (.inl rfl) rfl ?_ | refine fp1 (.inr rfl) rfl rfl ?_)
  exact ⟨p', c', hS.tail⟩
set_option maxHeartbeats 1000000 in
theorem pop_ok (b : Nat) (p : Option Addr) (c : Nat) (st : List (List UInt8)) (hb : st.length ≤ 1048576) (h0 : st ≠ []) (w0 w : World) (cs : List Plot) (hS : Sep w0 w (pOwn b [.slice p st.length c] :: pRow 1 p st.length c (strs st) :: cs)) :
    CallsR Tryd.prog 69 #[ptrAt (pb b) 0] w fun _ w' => Sep w0 w' (pOwn b [.slice p st.dropLast.length c] :: pRow 1 p st.dropLast.length c (strs st.dropLast) :: cs) := by
  have hpos : 0 < st.length := List.length_pos_iff.2 h0
  have hle := (hS.row 1 rfl).le_cap
  refine enter (l := [ptrAt (pb b) 0]) Tryd.func69 rfl Tryd.ntmps69 (by kernel_rfl) rfl ?_
  refine sgo ?_
  refine wcdrawt 14 ?_
  refine qgo ?_
  refine QL_nil ?_
  intro w1 hf1
  replace hS := hS.grow hf1
  refine sgo ?_
  refine sst_slice hS 0 fun w4 hS => ?_
  refine sgo ?_
  (first | refine fp1 (.inl rfl) rfl rfl ?_ | refine fp2 (.inl rfl) rfl rfl rfl ?_ | refine fp3 (.inl rfl) rfl rfl rfl rfl ?_ | refine fp0 (.inr rfl) rfl ?_ | refine fp0 (.inl rfl) rfl ?_ | refine fp1 (.inr rfl) rfl rfl ?_)
  have hn : ((st.length : Int) - 1).toNat = st.dropLast.length := by simp
  rw [hn] at hS
  refine Sep.turn (c := pRow 1 p st.length c (strs st)) (c' := pRow 1 p st.dropLast.length c (strs st.dropLast)) hS 1 rfl (fun h => ?_) (fun x hx => hx)
  have := Row.take h (j := st.dropLast.length) (by simp)
  rw [Nat.mul_one] at this
  have e : (strs st).take st.dropLast.length = strs st.dropLast := by rw [strs, strs, ← List.map_take, List.length_dropLast, List.dropLast_eq_take]
  rw [e] at this
  exact this
set_option maxHeartbeats 1000000 in
theorem top_ok (b : Nat) (p : Option Addr) (c : Nat) (st : List (List UInt8)) (hb : st.length ≤ 1048576) (w0 w : World) (cs : List Plot) (hS : Sep w0 w (pOwn b [.slice p st.length c] :: pRow 1 p st.length c (strs st) :: cs)) :
    PureC Tryd.prog 78 #[ptrAt (pb b) 0] w (.tuple #[str (st.getLast?.getD []), .bool !decide (st = [])]) := by
  refine enter (l := [ptrAt (pb b) 0]) Tryd.func78 rfl Tryd.ntmps78 (by kernel_rfl) rfl ?_
  refine sgo ?_
  (show WC _ _ _ _ _ _ _; first | refine WC_dec rfl (fun hc => ?_) (fun hc => ?_) | refine WC_cond rfl (fun hc => ?_) (fun hc => ?_))
  · obtain rfl : st = [] := List.length_eq_zero_iff.1 (by omega)
    refine sgo ?_
    (first | refine fp1 (.inl rfl) rfl rfl ?_ | refine fp2 (.inl rfl) rfl rfl rfl ?_ | refine fp3 (.inl rfl) rfl rfl rfl rfl ?_ | refine fp0 (.inr rfl) rfl ?_ | refine fp0 (.inl rfl) rfl ?_ | refine fp1 (.inr rfl) rfl rfl ?_); refine ⟨?_, by (first | exact Frm.refl _ | assumption | exact Go.Sv.Sep.frm (by assumption) | (refine Frm.trans ?_ (by assumption); first | exact Frm.refl _ | assumption))⟩; (try simp only [realB, rv_true, Nat.reduceBEq, cond_true, cond_false, entG, real_lif, updGL])
    rfl
  · have h0 : st ≠ [] := fun h => hc (by rw [h]; rfl)
    have hpos : 0 < st.length := List.length_pos_iff.2 h0
    clear hc
    have hp : ∃ a, p = some a := (hS.row 1 rfl).sg.some (by rw [strs_len]; exact hpos)
    have hg : (strs st)[((st.length : Int) - 1).toNat]? = some (str (st.getLast?.getD [])) := by
      rw [show ((st.length : Int) - 1).toNat = st.length - 1 by omega, strs, List.getElem?_map, List.getLast?_eq_getElem?, List.getElem?_eq_getElem (by omega)]
      rfl
    refine sgo ?_
    refine wcdraw ?_
    refine qgo ?_
    refine QL_nil ?_
    intro w1 hf1
    refine sgo ?_
    (first | refine fp1 (.inl rfl) rfl rfl ?_ | refine fp2 (.inl rfl) rfl rfl rfl ?_ | refine fp3 (.inl rfl) rfl rfl rfl rfl ?_ | refine fp0 (.inr rfl) rfl ?_ | refine fp0 (.inl rfl) rfl ?_ | refine fp1 (.inr rfl) rfl rfl ?_); refine ⟨?_, by (first | exact Frm.refl _ | assumption | exact Go.Sv.Sep.frm (by assumption) | (refine Frm.trans ?_ (by assumption); first | exact Frm.refl _ | assumption))⟩; (try simp only [realB, rv_true, Nat.reduceBEq, cond_true, cond_false, entG, real_lif, updGL])
    simp [h0]
end Go.Proofs.YthgbpgjpnaanlaaDoor

/-
  Package event: walk.
-/
set_option linter.unusedSimpArgs false
set_option linter.unusedVariables false
set_option linter.unnecessarySimpa false
namespace Go.Proofs.YthgbpgjpnaanlaaDoor
open Go Go.Sv Go.RowKit

/-- the events alone -/
def evs (ms : List EvM) : List Ev := ms.map EvM.e
theorem evs_len (ms : List EvM) : (evs ms).length = ms.length := by simp [evs]
theorem evs_at {ms : List EvM} {i : Nat} {m : EvM} (h : ms[i]? = some m) : (evs ms)[i]? = some m.e := by simp [evs, h]
/-- how the first i nest -/
def lkI (ms : List EvM) (i : Nat) : Lk := lkR ((evs ms).take i)
theorem lkI_succ {ms : List EvM} {i : Nat} {m : EvM} (h : ms[i]? = some m) : lkI ms (i + 1) = lkStep (lkI ms i) m.e := lk_take (evs_at h)
theorem lkI_ok {ms : List EvM} {i : Nat} (hi : i ≤ ms.length) (h : (lkI ms i).err = 0) : (lkI ms i).at_ = 0 ∧ (lkI ms i).good = i ∧ (lkI ms i).stack.length ≤ i ∧ (lkI ms i).most ≤ i := by
  have := lk_ok h
  rw [List.length_take, evs_len, Nat.min_eq_left hi] at this
  exact this
theorem lkI_stop {ms : List EvM} {i : Nat} (h : (lkI ms i).err ≠ 0) : lkR (evs ms) = lkI ms i := lk_stop h
theorem lkI_all (ms : List EvM) : lkI ms ms.length = lkR (evs ms) := by rw [lkI, ← evs_len, List.take_length]

set_option maxHeartbeats 1000000 in
/-- walk, over whatever it is that sees -/
theorem walk_ok (ms : List EvM) (p : Option Addr) (c : Nat) (hn : ms.length ≤ 1048576) (hs : ∀ m ∈ ms, m.e.small) (f : FuncId) [hf : Fnc Tryd.prog f] (cap : List Value) (B : Nat) (J Jx : Nat → World → Prop)
    (hJE : ∀ i w, J i w → Evs w p ms ∧ Asc w) (hst : ∀ i w1 w2, J i w1 → Same B w1 w2 → J i w2) (hstx : ∀ i w1 w2, Jx i w1 → Same B w1 w2 → Jx i w2)
    (hsee : ∀ i w1 m, J i w1 → ms[i]? = some m → (lkI ms i).err = 0 → (lkI ms (i + 1)).err = 0 → CallsR Tryd.prog f ([int (lkI ms i).stack.length, .agg ⟨m.cells⟩] ++ cap).toArray w1 fun v w2 => ∃ bb N, v = .bool bb ∧ Le N w1 w2 ∧ (∀ x ∈ N, x < B) ∧ if bb then J (i + 1) w2 else Jx i w2)
    (w : World) (hB : B = w.heap.size) (h0 : J 0 w) :
    CallsR Tryd.prog 43 #[.slice p ms.length c, .func (.func f) #[] ⟨cap⟩] w fun v w' =>
      (J (lkR (evs ms)).good w' ∧ (lkR (evs ms)).err ≠ 0 ∧ v = .tuple #[int (lkR (evs ms)).at_, int (lkR (evs ms)).err, .slice none 0 0]) ∨
      (J ms.length w' ∧ (lkR (evs ms)).err = 0 ∧ ∃ q cc w0, v = .tuple #[int 0, int 0, .slice q (lkR (evs ms)).stack.length cc] ∧ w0.heap.size = B ∧ Sep w0 w' [pRow 1 q (lkR (evs ms)).stack.length cc (strs (lkR (evs ms)).stack)]) ∨
      ∃ i q n cc, i < ms.length ∧ (lkI ms (i + 1)).err = 0 ∧ Jx i w' ∧ v = .tuple #[int 0, int 0, .slice q n cc] := by
  refine enter (l := [.slice p ms.length c, .func (.func f) #[] ⟨cap⟩]) Tryd.func43 rfl Tryd.ntmps43 (by kernel_rfl) rfl ?_
  have hS := Sep.start w
  refine sgo ?_
  refine salloc hS fun b7 w7 hS => ?_
  replace hS : Sep w w7 [pOwn b7 [.slice none 0 0]] := hS
  replace hS := (hS.push (c := pRow 1 none 0 0 (strs [])) (Frm.refl w7) (Row.nil w7 1) (by simp [pRow, rb])).front 1 rfl
  have hJ7 := hst 0 _ _ h0 (hB ▸ Same.of_frm (Frm.refl w) hS.frm)
  refine sgo ?_
  refine wcloop (X := Nat × Option Addr × Nat) (fun x => [(1, .func (.func f) #[] ⟨cap⟩), (4, int 0), (5, int 0), (6, .slice none 0 0), (7, ptrAt (pb b7) 0), (13, .slice p ms.length c), (14, int ms.length), (15, int x.1)])
    (fun x wr => x.1 ≤ ms.length ∧ (lkI ms x.1).err = 0 ∧ J x.1 wr ∧ ∃ w0, w0.heap.size = B ∧ Sep w0 wr [pOwn b7 [.slice x.2.1 (lkI ms x.1).stack.length x.2.2], pRow 1 x.2.1 (lkI ms x.1).stack.length x.2.2 (strs (lkI ms x.1).stack)])
    (fun x => ms.length - x.1) (0, none, 0) ⟨rfl, rfl, rfl, rfl, rfl, rfl, rfl, rfl, trivial⟩ ⟨Nat.zero_le _, rfl, hJ7, w, hB.symm, hS⟩ ?_
  clear hS hJ7 h0
  rintro ⟨i, q, cc⟩ wr ρ ⟨hil, herr, hJ, w0, hw0, hS⟩
  dsimp only at *
  have hok := lkI_ok hil herr
  have hE := (hJE i wr hJ).1
  have hA := (hJE i wr hJ).2
  refine sgo ?_
  (show WC _ _ _ _ _ _ _; first | refine WC_dec rfl (fun hc => ?_) (fun hc => ?_) | refine WC_cond rfl (fun hc => ?_) (fun hc => ?_))
  · have hlt : i < ms.length := by omega
    have hx : ms[i]? = some ms[i] := List.getElem?_eq_getElem hlt
    have hmem : ms[i] ∈ ms := List.getElem_mem hlt
    have hseg := fm_seg EvM.len ms hx
    have hfl := fm_len EvM.len ms
    have hat := hE.each _ hmem
    have hsm := hs _ hmem
    have hps : ∃ a, p = some a := hE.im.sg.some (by omega)
    have hSg := hE.im.sg
    have hsuc := lkI_succ hx
    generalize ms[i] = m at *
    generalize hk : lkI ms i = k at *
    clear hc
    have hJat : ∀ w' ds, Sep w0 w' ds → J i w' := fun w' ds h => hst i wr w' hJ (hw0 ▸ Same.of_sep hS h)
    clear hat
    obtain ⟨⟨kd, nm, tx, es⟩, mp, mc⟩ := m
    refine sgo ?_
    rw [hseg]
    refine salloc hS fun b9 w9 hS => ?_
    refine sgo ?_
    refine ssta (vs := [int kd, str nm, str tx, .slice mp es.length mc]) hS 0 fun w10 hS => ?_
    replace hS : Sep w0 w10 [pOwn b9 [int kd, str nm, str tx, .slice mp es.length mc], pOwn b7 [.slice q k.stack.length cc], pRow 1 q k.stack.length cc (strs k.stack)] := hS
    have h10 := hJE i _ (hJat _ _ hS)
    refine sgo ?_
    refine wlpure (evCheck_ok ⟨kd, nm, tx, es⟩ mp mc hsm w10 h10.2 (h10.1.each _ hmem)) fun w11 hf11 => ?_
    replace hS := hS.grow hf11
    have hst1 : evR ⟨kd, nm, tx, es⟩ = false → lkStep k ⟨kd, nm, tx, es⟩ = { k with at_ := k.good, err := 180 } := by
      intro he; simp [lkStep, herr, he]
    cases he : evR ⟨kd, nm, tx, es⟩ with
    | false =>
      have hend := lkI_stop (ms := ms) (i := i + 1) (by rw [hsuc]; dsimp only; rw [hst1 he]; simp)
      rw [hsuc] at hend
      dsimp only at hend
      rw [hst1 he] at hend
      refine sgo ?_
      (first | refine fp1 (.inl rfl) rfl rfl ?_ | refine fp2 (.inl rfl) rfl rfl rfl ?_ | refine fp3 (.inl rfl) rfl rfl rfl rfl ?_ | refine fp0 (.inr rfl) rfl ?_ | refine fp0 (.inl rfl) rfl ?_ | refine fp1 (.inr rfl) rfl rfl ?_)
      refine .inl ⟨?_, ?_, ?_⟩
      · rw [hend]; exact hok.2.1 ▸ hJat _ _ hS
      · rw [hend]; exact (by decide : (180 : Int) ≠ 0)
      · rw [hend]; show _ = Value.tuple #[int k.good, int 180, .slice none 0 0]; rw [hok.2.1]; rfl
    | true =>
      refine sgo ?_
      refine wcutt (X := Unit) (fun _ => [(1, .func (.func f) #[] ⟨cap⟩), (4, int 0), (5, int 0), (6, .slice none 0 0), (7, ptrAt (pb b7) 0), (8, int i), (9, ptrAt (pb b9) 0), (13, .slice p ms.length c), (14, int ms.length), (15, int i)])
        (fun _ w' => (lkStep k ⟨kd, nm, tx, es⟩).err = 0 ∧ Sep w0 w' [pOwn b9 [int kd, str nm, str tx, .slice mp es.length mc], pOwn b7 [.slice q k.stack.length cc], pRow 1 q k.stack.length cc (strs k.stack)]) ?_ ?_
      · (show WC _ _ _ _ _ _ _; first | refine WC_dec rfl (fun hc => ?_) (fun hc => ?_) | refine WC_cond rfl (fun hc => ?_) (fun hc => ?_))
        · replace hc : kd = 2 := hc
          subst hc
          refine sgo ?_
          refine wlpure (top_ok b7 q cc k.stack (by omega) w0 w11 [] hS.tail) fun w12 hf12 => ?_
          replace hS := hS.grow hf12
          have h3 : lkStep k ⟨2, nm, tx, es⟩ = if k.stack.getLast? = some nm then ⟨k.stack.dropLast, k.most, 0, 0, k.good + 1⟩ else { k with at_ := k.good, err := 181 } := by
            simp [lkStep, herr, he]
          refine sgo ?_
          have hB2 : pkb (!(!decide (k.stack = []))) true (decide (k.stack.getLast?.getD [] ≠ nm)) = !decide (k.stack.getLast? = some nm) := by
            cases hl : k.stack.getLast? with
            | none => rw [List.getLast?_eq_none_iff.1 hl]; rfl
            | some z =>
              have hne : k.stack ≠ [] := by intro h; rw [h] at hl; cases hl
              simp [hne, pkb]
          rw [hB2]
          by_cases hl : k.stack.getLast? = some nm
          · rw [if_pos hl] at h3
            simp only [hl, decide_true, Bool.not_true]
            refine sgo ?_
            exact ⟨(), ⟨rfl, rfl, rfl, rfl, rfl, rfl, rfl, rfl, rfl, rfl, trivial⟩, by rw [h3], hS⟩
          · rw [if_neg hl] at h3
            have hend := lkI_stop (ms := ms) (i := i + 1) (by rw [hsuc]; dsimp only; rw [h3]; exact (by decide : (181 : Int) ≠ 0))
            rw [hsuc] at hend
            dsimp only at hend
            rw [h3] at hend
            simp only [hl, decide_false, Bool.not_false]
            refine sgo ?_
            (first | refine fp1 (.inl rfl) rfl rfl ?_ | refine fp2 (.inl rfl) rfl rfl rfl ?_ | refine fp3 (.inl rfl) rfl rfl rfl rfl ?_ | refine fp0 (.inr rfl) rfl ?_ | refine fp0 (.inl rfl) rfl ?_ | refine fp1 (.inr rfl) rfl rfl ?_)
            refine .inl ⟨?_, ?_, ?_⟩
            · rw [hend]; exact hok.2.1 ▸ hJat _ _ hS
            · rw [hend]; exact (by decide : (181 : Int) ≠ 0)
            · rw [hend]; show _ = Value.tuple #[int k.good, int 181, .slice none 0 0]; rw [hok.2.1]; rfl
        · replace hc : ¬ kd = 2 := hc
          refine sgo ?_
          refine ⟨(), ⟨rfl, rfl, rfl, rfl, rfl, rfl, rfl, rfl, rfl, rfl, trivial⟩, ?_, hS⟩
          simp only [lkStep, herr, he, if_true, if_neg hc]
          split <;> (try split) <;> rfl
      · clear hS
        rintro _ w12 ρ2 ⟨hright, hS⟩
        obtain ⟨-, hstep⟩ := lk_right herr hright
        dsimp only at hsuc
        have hsee' := hsee i w12 _ (hJat _ _ hS) hx (by rw [hk]; exact herr) (by rw [hsuc]; exact hright)
        rw [hk] at hsee'
        refine sgo ?_
        refine wlcallv (f := f) (first := []) (args := [int k.stack.length, .agg ⟨EvM.cells ⟨⟨kd, nm, tx, es⟩, mp, mc⟩⟩]) (cap := cap) hsee' ?_
        rintro _ w13 ⟨bb, N, rfl, hle, hN, hpost⟩
        obtain ⟨w1, hw1, hS⟩ := hS.rebase hle (by rw [hw0]; exact hN)
        rw [hw0] at hw1
        cases bb with
        | false =>
          simp only [Bool.false_eq_true, if_false] at hpost
          refine sgo ?_
          refine wcdraw ?_
          refine qgo ?_
          refine QL_nil ?_
          intro w14 hf14
          have hS4 := hS.grow hf14
          refine sgo ?_
          (first | refine fp1 (.inl rfl) rfl rfl ?_ | refine fp2 (.inl rfl) rfl rfl rfl ?_ | refine fp3 (.inl rfl) rfl rfl rfl rfl ?_ | refine fp0 (.inr rfl) rfl ?_ | refine fp0 (.inl rfl) rfl ?_ | refine fp1 (.inr rfl) rfl rfl ?_)
          exact .inr (.inr ⟨i, q, k.stack.length, cc, hlt, by rw [hsuc]; exact hright, hstx i _ _ hpost (hw1 ▸ Same.of_sep hS hS4), rfl⟩)
        | true =>
          simp only [if_true] at hpost
          have hjn : ∀ w' ds, Sep w1 w' ds → J (i + 1) w' := fun w' ds h => hst _ _ _ hpost (hw1 ▸ Same.of_sep hS h)
          refine sgo ?_
          (show WC _ _ _ _ _ _ _; first | refine WC_dec rfl (fun hc => ?_) (fun hc => ?_) | refine WC_cond rfl (fun hc => ?_) (fun hc => ?_))
          · replace hc : kd = 1 := hc
            subst hc
            refine sgo ?_
            refine wlcall (push_ok b7 q cc k.stack nm (by omega) w1 w13 [] hS.tail) ?_
            rintro _ w14 ⟨q', c', hS⟩
            refine sgo ?_
            refine ⟨(i + 1, q', c'), ⟨rfl, rfl, rfl, rfl, rfl, rfl, rfl, rfl, trivial⟩, ⟨hlt, by dsimp only; rw [hsuc]; exact hright, hjn _ _ hS, w1, hw1, ?_⟩, (by (try dsimp only); omega)⟩
            dsimp only
            rw [hsuc, hstep]
            exact hS
          · replace hc : ¬ kd = 1 := hc
            have hk1 := hc
            clear hc
            refine sgo ?_
            (show WC _ _ _ _ _ _ _; first | refine WC_dec rfl (fun hc => ?_) (fun hc => ?_) | refine WC_cond rfl (fun hc => ?_) (fun hc => ?_))
            · replace hc : kd = 2 := hc
              subst hc
              have hne : k.stack ≠ [] := by
                intro h
                revert hright
                simp [lkStep, herr, he, h]
              refine sgo ?_
              refine wlcall (pop_ok b7 q cc k.stack (by omega) hne w1 w13 [] hS.tail) ?_
              rintro _ w14 hS
              refine sgo ?_
              refine ⟨(i + 1, q, cc), ⟨rfl, rfl, rfl, rfl, rfl, rfl, rfl, rfl, trivial⟩, ⟨hlt, by dsimp only; rw [hsuc]; exact hright, hjn _ _ hS, w1, hw1, ?_⟩, (by (try dsimp only); omega)⟩
              dsimp only
              rw [hsuc, hstep]
              exact hS
            · replace hc : ¬ kd = 2 := hc
              have hk2 := hc
              clear hc
              refine sgo ?_
              refine ⟨(i + 1, q, cc), ⟨rfl, rfl, rfl, rfl, rfl, rfl, rfl, rfl, trivial⟩, ⟨hlt, by dsimp only; rw [hsuc]; exact hright, hjn _ _ hS, w1, hw1, ?_⟩, (by (try dsimp only); omega)⟩
              dsimp only
              rw [hsuc, hstep]
              dsimp only
              rw [if_neg hk1, if_neg hk2]
              exact hS.tail
  · obtain rfl : i = ms.length := by omega
    rw [lkI_all] at *
    clear hc
    refine sgo ?_
    refine wcdraw ?_
    refine qgo ?_
    refine QL_nil ?_
    intro w1 hf1
    have hS4 := hS.grow hf1
    refine sgo ?_
    (first | refine fp1 (.inl rfl) rfl rfl ?_ | refine fp2 (.inl rfl) rfl rfl rfl ?_ | refine fp3 (.inl rfl) rfl rfl rfl rfl ?_ | refine fp0 (.inr rfl) rfl ?_ | refine fp0 (.inl rfl) rfl ?_ | refine fp1 (.inr rfl) rfl rfl ?_)
    exact .inr (.inl ⟨hst _ _ _ hJ (hw0 ▸ Same.of_sep hS hS4), herr, q, cc, w0, rfl, hw0, hS4.tail⟩)
end Go.Proofs.YthgbpgjpnaanlaaDoor

/-
  Package link: paths without dot segments; the twins.
-/
set_option linter.unusedSimpArgs false
set_option linter.unusedVariables false
set_option linter.unnecessarySimpa false
namespace Go.Sv
open Go Go.RowKit
section
variable {P : Program} {σ : Env} {w : World} {d : Option Tmp} {ty t t' : TypeId} {pos : String} {af : Array Edge} {g : Option (Nat × Bool)} {x y : Operand} {a b : Int} {ats : Array TypeId}
theorem y_max (hx : evl σ x = int a) (hy : evl σ y = int b) : Y P σ ⟨d, .call ⟨.builtin .max, #[x, y], ats⟩, ty, pos, af, g⟩ w (int (max a b)) w := by
  refine Y.val ?_; simp only [execOp, resolve, Sem.run_bind, Sem.run_pure, Result.andThen_ok, invoke, builtin]
  have e : (if b > a then b else a) = max a b := by omega
  simp [hx, hy, Builtin.max_, Builtin.max2, e]
end
end Go.Sv
namespace Go.Proofs.YthgbpgjpnaanlaaDoor
open Go Go.Sv Go.RowKit

/-- how many bytes stand ahead of the first of some -/
def upR (l sm : List UInt8) : Nat := (l.takeWhile fun c => decide (c ∉ sm)).length
/-- the last place below n where c stands -/
def lastF (l : List UInt8) (c : Nat) : Nat → Int
  | 0 => -1
  | n + 1 => if at0 l n = c then n else lastF l c n
def lastR (l : List UInt8) (c : Nat) : Int := lastF l c l.length
def parR (l : List UInt8) : List UInt8 := l.take (max (lastR l 47) 0).toNat













def pfx (p l : List UInt8) : Bool := p.isPrefixOf l
/-- a segment's end -/
def segN (l : List UInt8) : Nat := 1 + upR (l.drop 1) [47]
def dotStep (l out : List UInt8) : List UInt8 × List UInt8 :=
  if pfx [46, 46, 47] l then (l.drop 3, out)
  else if pfx [46, 47] l then (l.drop 2, out)
  else if pfx [47, 46, 47] l then (l.drop 2, out)
  else if l = [47, 46] then ([47], out)
  else if pfx [47, 46, 46, 47] l then (l.drop 3, parR out)
  else if l = [47, 46, 46] then ([47], parR out)
  else if l = [46] ∨ l = [46, 46] then ([], out)
  else (l.drop (segN l), out ++ l.take (segN l))
def dotsF : Nat → List UInt8 → List UInt8 → List UInt8
  | 0, _, out => out
  | f + 1, l, out => if l = [] then out else dotsF f (dotStep l out).1 (dotStep l out).2
def dotsL (l out : List UInt8) : List UInt8 := dotsF l.length l out
end Go.Proofs.YthgbpgjpnaanlaaDoor

/-
  Package event: Nested, Open, Depth.
-/
set_option linter.unusedSimpArgs false
set_option linter.unusedVariables false
set_option linter.unnecessarySimpa false
namespace Go.Proofs.YthgbpgjpnaanlaaDoor
open Go Go.Sv Go.RowKit

theorem all_ok0 (d : Int) (e : Ev) (p : Option Addr) (c : Nat) (w : World) : PureC Tryd.prog 44 #[int d, .agg ⟨e.cells p c⟩] w (.bool true) := by
  refine enter (l := [int d, .agg ⟨e.cells p c⟩]) Tryd.func44 rfl Tryd.ntmps44 (by kernel_rfl) rfl ?_
  have hS := Sep.start w
  refine sgo ?_
  refine sbox (v := .agg ⟨e.cells p c⟩) hS fun b w1 hS => ?_
  refine sgo ?_
  (first | refine fp1 (.inl rfl) rfl rfl ?_ | refine fp2 (.inl rfl) rfl rfl rfl ?_ | refine fp3 (.inl rfl) rfl rfl rfl rfl ?_ | refine fp0 (.inr rfl) rfl ?_ | refine fp0 (.inl rfl) rfl ?_ | refine fp1 (.inr rfl) rfl rfl ?_); refine ⟨?_, by (first | exact Frm.refl _ | assumption | exact Go.Sv.Sep.frm (by assumption) | (refine Frm.trans ?_ (by assumption); first | exact Frm.refl _ | assumption))⟩; (try simp only [realB, rv_true, Nat.reduceBEq, cond_true, cond_false, entG, real_lif, updGL])
/-- walk, that nobody looks at -/
theorem walkAll_ok (ms : List EvM) (p : Option Addr) (c : Nat) (hn : ms.length ≤ 1048576) (hs : ∀ m ∈ ms, m.e.small) (w : World) (hA : Asc w) (hE : Evs w p ms) :
    CallsR Tryd.prog 43 #[.slice p ms.length c, .func (.func 44) #[] #[]] w fun v w' => Frm w w' ∧
      (((lkR (evs ms)).err ≠ 0 ∧ v = .tuple #[int (lkR (evs ms)).at_, int (lkR (evs ms)).err, .slice none 0 0]) ∨
      ((lkR (evs ms)).err = 0 ∧ ∃ q cc, v = .tuple #[int 0, int 0, .slice q (lkR (evs ms)).stack.length cc] ∧ Sep w w' [pRow 1 q (lkR (evs ms)).stack.length cc (strs (lkR (evs ms)).stack)])) := by
  refine CallsR.mono (walk_ok ms p c hn hs 44 [] w.heap.size (fun _ w' => Frm w w') (fun _ _ => False) (fun _ w' h => ⟨hE.frm h, hA.frm h⟩) (fun _ _ _ h h' => h'.frm h) (fun _ _ _ h _ => h)
    (fun i w1 m h _ _ _ => ?_) w rfl (Frm.refl w)) ?_
  · refine CallsR.mono (all_ok0 _ m.e m.p m.c w1) ?_
    rintro v w2 ⟨rfl, hf⟩
    exact ⟨true, [], rfl, hf.le, by simp, h.trans hf⟩
  · rintro v w' (⟨h1, h2, h3⟩ | ⟨h1, h2, q, cc, w0, h3, h4, h5⟩ | ⟨i, q, n, cc, _, _, h, _⟩)
    · exact ⟨h1, .inl ⟨h2, h3⟩⟩
    · refine ⟨h1, .inr ⟨h2, q, cc, h3, h1, h5.ok, fun c hc x hx => ?_, h5.apart⟩⟩
      rw [← h4]; exact h5.low c hc x hx
    · exact h.elim
theorem nested_ok (ms : List EvM) (p : Option Addr) (c : Nat) (hn : ms.length ≤ 1048576) (hs : ∀ m ∈ ms, m.e.small) (w : World) (hA : Asc w) (hE : Evs w p ms) :
    PureC Tryd.prog 15 #[.slice p ms.length c] w (.tuple #[int (lkR (evs ms)).at_, int (lkR (evs ms)).err]) := by
  refine enter (l := [.slice p ms.length c]) Tryd.func15 rfl Tryd.ntmps15 (by kernel_rfl) rfl ?_
  refine sgo ?_
  refine wlcall (walkAll_ok ms p c hn hs w hA hE) ?_
  rintro _ w1 ⟨hf, ⟨h2, rfl⟩ | ⟨h2, q, cc, rfl, hS⟩⟩
  · refine sgo ?_
    (first | refine fp1 (.inl rfl) rfl rfl ?_ | refine fp2 (.inl rfl) rfl rfl rfl ?_ | refine fp3 (.inl rfl) rfl rfl rfl rfl ?_ | refine fp0 (.inr rfl) rfl ?_ | refine fp0 (.inl rfl) rfl ?_ | refine fp1 (.inr rfl) rfl rfl ?_); refine ⟨?_, by (first | exact Frm.refl _ | assumption | exact Go.Sv.Sep.frm (by assumption) | (refine Frm.trans ?_ (by assumption); first | exact Frm.refl _ | assumption))⟩; (try simp only [realB, rv_true, Nat.reduceBEq, cond_true, cond_false, entG, real_lif, updGL])
  · have h0 := (lk_ok h2).1
    refine sgo ?_
    (first | refine fp1 (.inl rfl) rfl rfl ?_ | refine fp2 (.inl rfl) rfl rfl rfl ?_ | refine fp3 (.inl rfl) rfl rfl rfl rfl ?_ | refine fp0 (.inr rfl) rfl ?_ | refine fp0 (.inl rfl) rfl ?_ | refine fp1 (.inr rfl) rfl rfl ?_); refine ⟨?_, by (first | exact Frm.refl _ | assumption | exact Go.Sv.Sep.frm (by assumption) | (refine Frm.trans ?_ (by assumption); first | exact Frm.refl _ | assumption))⟩; (try simp only [realB, rv_true, Nat.reduceBEq, cond_true, cond_false, entG, real_lif, updGL])
    rw [h0, h2]; rfl
def mostR (m d : Nat) (k : Int) : Nat := if k = 1 ∨ k = 3 then max m (d + 1) else m
set_option maxHeartbeats 1000000 in
theorem depth1_ok (d : Nat) (e : Ev) (p : Option Addr) (c : Nat) (b : Nat) (m : Nat) (hd : d ≤ 1048576) (w : World) (ho : Own w b [int m]) :
    CallsR Tryd.prog 45 #[int d, .agg ⟨e.cells p c⟩, ptrAt (pb b) 0] w fun v w' => v = .bool true ∧ Own w' b [int (mostR m d e.kind)] ∧ Le [b] w w' := by
  obtain ⟨k, nm, tx, es⟩ := e
  refine enter (l := [int d, .agg ⟨Ev.cells ⟨k, nm, tx, es⟩ p c⟩, ptrAt (pb b) 0]) Tryd.func45 rfl Tryd.ntmps45 (by kernel_rfl) rfl ?_
  refine sgo ?_
  refine wlbox (v := .agg ⟨Ev.cells ⟨k, nm, tx, es⟩ p c⟩) (hx := rfl) fun b4 w1 hb4 o4 hf1 => ?_
  have o1 := ho.frm hf1
  replace o4 : Own w1 b4 [int k, str nm, str tx, .slice p es.length c] := o4
  refine sgo ?_
  have hB : pkb (decide (k = 1)) true (decide (k = 3)) = decide (k = 1 ∨ k = 3) := by simp [pkb_or]
  rw [hB]
  (show WC _ _ _ _ _ _ _; first | refine WC_dec rfl (fun hc => ?_) (fun hc => ?_) | refine WC_cond rfl (fun hc => ?_) (fun hc => ?_))
  · have hk : k = 1 ∨ k = 3 := hc
    clear o4
    refine sgo ?_
    refine wl ?_ (y_max rfl rfl)
    refine wlst_int o1 (fun w2 o2 hl2 => ?_) 
    refine sgo ?_
    (first | refine fp1 (.inl rfl) rfl rfl ?_ | refine fp2 (.inl rfl) rfl rfl rfl ?_ | refine fp3 (.inl rfl) rfl rfl rfl rfl ?_ | refine fp0 (.inr rfl) rfl ?_ | refine fp0 (.inl rfl) rfl ?_ | refine fp1 (.inr rfl) rfl rfl ?_)
    refine ⟨rfl, ?_, (hf1.le).trans hl2⟩
    have e : (max (m : Int) (d + 1)) = ((mostR m d k : Nat) : Int) := by rw [mostR, if_pos hk]; omega
    rw [← e]; exact o2
  · have hk : ¬ (k = 1 ∨ k = 3) := hc
    refine sgo ?_
    (first | refine fp1 (.inl rfl) rfl rfl ?_ | refine fp2 (.inl rfl) rfl rfl rfl ?_ | refine fp3 (.inl rfl) rfl rfl rfl rfl ?_ | refine fp0 (.inr rfl) rfl ?_ | refine fp0 (.inl rfl) rfl ?_ | refine fp1 (.inr rfl) rfl rfl ?_)
    refine ⟨rfl, ?_, hf1.le⟩
    rw [mostR, if_neg hk]; exact o1
theorem lk_most {k : Lk} {e : Ev} (h0 : k.err = 0) (h : (lkStep k e).err = 0) : (lkStep k e).most = mostR k.most k.stack.length e.kind := by rw [(lk_right h0 h).2]; rfl
set_option maxHeartbeats 1000000 in
theorem depth_ok (ms : List EvM) (p : Option Addr) (c : Nat) (hn : ms.length ≤ 1048576) (hs : ∀ m ∈ ms, m.e.small) (w : World) (hA : Asc w) (hE : Evs w p ms) :
    PureC Tryd.prog 17 #[.slice p ms.length c] w (if (lkR (evs ms)).err = 0 then .tuple #[int (lkR (evs ms)).most, int 0] else .tuple #[int 0, int (lkR (evs ms)).err]) := by
  refine enter (l := [.slice p ms.length c]) Tryd.func17 rfl Tryd.ntmps17 (by kernel_rfl) rfl ?_
  refine sgo ?_
  refine wlalloc fun b4 w4 hb4 o4 hf4 => ?_
  replace o4 : Own w4 b4 [int 0] := o4
  refine sgo ?_
  refine wlst_int o4 (fun w5 o5 hl5 => ?_)
  replace o5 : Own w5 b4 [int ((0 : Nat) : Int)] := o5
  have hf5 : Frm w w5 := hf4.step hl5 (by simpa using hb4)
  have hlt := o5.lt
  refine sgo ?_
  refine wlcall (walk_ok ms p c hn hs 45 [ptrAt (pb b4) 0] w5.heap.size (fun i w' => Own w' b4 [int (lkI ms i).most] ∧ Frm w w') (fun _ _ => False) (fun _ w' h => ⟨hE.frm h.2, hA.frm h.2⟩)
    (fun _ w1 w2 h h' => ⟨h.1.same h' hlt, ?_⟩) (fun _ _ _ h _ => h) (fun i w1 m h hx h0 h1 => ?_) w5 rfl ⟨o5, hf5⟩) ?_
  · exact ⟨h'.os.trans h.2.os, h'.tape.trans h.2.tape, h'.output.trans h.2.output, Nat.le_trans hf5.size h'.size, fun k hk => (h'.block k (Nat.lt_of_lt_of_le hk hf5.size)).trans (h.2.block k hk)⟩
  · have hlen : i < ms.length := by
      rcases Nat.lt_or_ge i ms.length with h | h
      · exact h
      · rw [List.getElem?_eq_none h] at hx; cases hx
    have hb := lkI_ok (Nat.le_of_lt hlen) h0
    refine CallsR.mono (depth1_ok (lkI ms i).stack.length m.e m.p m.c b4 (lkI ms i).most (by omega) w1 h.1) ?_
    rintro v w2 ⟨rfl, ho, hl⟩
    refine ⟨true, [b4], rfl, hl, by simpa using hlt, ?_⟩
    rw [if_pos rfl, lkI_succ hx, lk_most h0 (by rw [← lkI_succ hx]; exact h1)]
    exact ⟨ho, h.2.step hl (by simpa using hb4)⟩
  · rintro v w' (⟨⟨h1, hf⟩, h2, rfl⟩ | ⟨⟨h1, hf⟩, h2, q, cc, w0, rfl, h4, h5⟩ | ⟨i, q, n, cc, _, _, h, _⟩)
    · rw [if_neg h2]
      refine sgo ?_
      refine wcyes ?_ (ht := by simpa using h2)
      refine sgo ?_
      (first | refine fp1 (.inl rfl) rfl rfl ?_ | refine fp2 (.inl rfl) rfl rfl rfl ?_ | refine fp3 (.inl rfl) rfl rfl rfl rfl ?_ | refine fp0 (.inr rfl) rfl ?_ | refine fp0 (.inl rfl) rfl ?_ | refine fp1 (.inr rfl) rfl rfl ?_); refine ⟨?_, by (first | exact Frm.refl _ | assumption | exact Go.Sv.Sep.frm (by assumption) | (refine Frm.trans ?_ (by assumption); first | exact Frm.refl _ | assumption))⟩; (try simp only [realB, rv_true, Nat.reduceBEq, cond_true, cond_false, entG, real_lif, updGL])
    · rw [if_pos h2]
      rw [lkI_all] at h1
      refine sgo ?_
      (first | refine fp1 (.inl rfl) rfl rfl ?_ | refine fp2 (.inl rfl) rfl rfl rfl ?_ | refine fp3 (.inl rfl) rfl rfl rfl rfl ?_ | refine fp0 (.inr rfl) rfl ?_ | refine fp0 (.inl rfl) rfl ?_ | refine fp1 (.inr rfl) rfl rfl ?_); refine ⟨?_, by (first | exact Frm.refl _ | assumption | exact Go.Sv.Sep.frm (by assumption) | (refine Frm.trans ?_ (by assumption); first | exact Frm.refl _ | assumption))⟩; (try simp only [realB, rv_true, Nat.reduceBEq, cond_true, cond_false, entG, real_lif, updGL])
    · exact h.elim
end Go.Proofs.YthgbpgjpnaanlaaDoor

/-
  Loops over functions, with memory in pieces.
-/
set_option linter.unusedSimpArgs false
set_option linter.unusedVariables false
set_option linter.unnecessarySimpa false
namespace Go.Sv
open Go Go.RowKit
def pLoop (l : Nat) (r : Loop) : Plot where
  foot := [l]
  ok w := LoopAt w l r
  view := (none, [])
  loc _ _ h hb := (hb l (by simp)).trans h
  lt _ h x hx := by rw [List.mem_singleton.1 hx]; exact h.lt
  sg _ _ := .inl rfl
def pDef (D : Nat) : Plot where
  foot := [D]
  ok w := NoDef w D
  view := (none, [])
  loc _ _ h hb := (hb D (by simp)).trans h
  lt _ h x hx := by rw [List.mem_singleton.1 hx]; exact h.lt
  sg _ _ := .inl rfl
section
variable {w0 w w' : World} {cs : List Plot} {l D i : Nat} {r r' : Loop}
theorem Sep.loop (h : Sep w0 w cs) (hf : Frm w w') (hL : LoopAt w' l r) (hN : NoDef w' D) (hl : w.heap.size ≤ l) (hD : w.heap.size ≤ D) (hne : l ≠ D) : Sep w0 w' (pLoop l r :: pDef D :: cs) := by
  refine h.seq (ds := [pLoop l r, pDef D]) ⟨hf, ?_, ?_, ?_⟩
  · intro c hc
    rcases List.mem_cons.1 hc with rfl | hc
    · exact hL
    · rw [List.mem_singleton.1 hc]; exact hN
  · intro c hc x hx
    rcases List.mem_cons.1 hc with rfl | hc
    · rw [List.mem_singleton.1 hx]; exact hl
    · rw [List.mem_singleton.1 hc] at hx; rw [List.mem_singleton.1 hx]; exact hD
  · rw [List.pairwise_cons]
    refine ⟨fun b hb x hx hx' => ?_, List.pairwise_singleton _ _⟩
    rw [List.mem_singleton.1 hb] at hx'
    rw [List.mem_singleton.1 hx] at hx'
    exact hne (List.mem_singleton.1 hx')
theorem Sep.loopAt (h : Sep w0 w cs) (i : Nat) (hi : cs[i]? = some (pLoop l r)) : LoopAt w l r := h.at (c := pLoop l r) i hi
theorem Sep.noDef (h : Sep w0 w cs) (i : Nat) (hi : cs[i]? = some (pDef D)) : NoDef w D := h.at (c := pDef D) i hi
theorem Sep.turnLoop (h : Sep w0 w cs) (i : Nat) (hi : cs[i]? = some (pLoop l r)) (hl : Le [l] w w') (hL : LoopAt w' l r') : Sep w0 w' (cs.set i (pLoop l r')) :=
  h.upd i hi (lm_own hl) hL
/-- a piece that is given away -/
theorem Sep.lose {c : Plot} (h : Sep w0 w (c :: cs)) (hl : Le c.foot w w') : Sep w0 w' cs := by
  have hp := h.apart
  rw [List.pairwise_cons] at hp
  exact h.tail.le hl (fun d hd x hx hm => hp.1 d hd x hm hx) (h.low _ List.mem_cons_self)
theorem Sep.undef (h : Sep w0 w (pDef D :: cs)) : Sep w0 (w.putObj D (.deferred none)) cs := h.lose (le_putObj w D _)
end
end Go.Sv

/-
  Package event: Close; slices.Backward.
-/
set_option linter.unusedSimpArgs false
set_option linter.unusedVariables false
set_option linter.unnecessarySimpa false
namespace Go.Proofs.YthgbpgjpnaanlaaDoor
open Go Go.Sv Go.RowKit

def closeE (n : List UInt8) : Ev := ⟨2, n, [], []⟩
/-- the events that close, in memory -/
def closeM (n : List UInt8) : EvM := ⟨closeE n, none, 0⟩
/-- what Open tells -/
def openS (k : Lk) : List (List UInt8) := if k.err = 0 then k.stack else []
end Go.Proofs.YthgbpgjpnaanlaaDoor

/-
  Structs of texts, numbers and bools compared.
-/
set_option linter.unusedSimpArgs false
set_option linter.unusedVariables false
set_option linter.unnecessarySimpa false
namespace Go.Sv
open Go Go.RowKit
def plainB (P : Program) : List Field → Nat → List TypeDesc → Bool
  | [], _, [] => true
  | f :: fs, k, d :: ds => (f.name != "_") && (f.offset == k) && (match P.underlying f.type, d with
    | some .string, .string => true
    | some .bool, .bool => true
    | some (.int a), .int b => kEq a b
    | _, _ => false) && plainB P fs (k + 1) ds
  | _, _, _ => false
/-- a struct whose fields are one cell each: texts, bools, numbers -/
class PlainS (P : Program) (t : TypeId) (ds : outParam (List TypeDesc)) : Prop where
  ok : ∃ fs, P.underlying t = some (.struct fs) ∧ plainB P fs.toList 0 ds = true ∧ P.stoodInHeld t = false ∧ P.eqGuardType P.depth t = false
/-- are two structs the same? -/
def eqL : List TypeDesc → List Value → List Value → Option Bool
  | [], [], [] => some true
  | .string :: ds, .string ⟨⟨a⟩⟩ :: xs, .string ⟨⟨b⟩⟩ :: ys => match eqL ds xs ys with | some r => some (decide (a = b) && r) | none => none
  | .bool :: ds, .bool a :: xs, .bool b :: ys => match eqL ds xs ys with | some r => some (decide (a = b) && r) | none => none
  | .int k :: ds, .int k1 a :: xs, .int k2 b :: ys => match kEq k k1, kEq k k2, eqL ds xs ys with | true, true, some r => some (decide (a = b) && r) | _, _, _ => none
  | _, _, _ => none
section
variable {P : Program} {w : World}
theorem run_part {t : TypeId} {d : TypeDesc} (hu : P.underlying t = some d) (hd : (match d with | .struct _ | .array _ _ => true | _ => false) = false) {cs : Array Value} {off : Nat} {v : Value} (hv : cs[off]? = some v) : (part t cs off).run P w = .ok v w := by
  have hi : (isAgg t).run P w = .ok false w := by
    simp only [isAgg, underlying, Sem.run_bind, run_program, Result.andThen_ok, hu, Sem.run_pure]
    rw [← hd]
    cases d <;> rfl
  simp [part, hi, hv]
theorem str_beq (a b : List UInt8) : ((ByteArray.mk ⟨a⟩).toList == (ByteArray.mk ⟨b⟩).toList) = decide (a = b) := by
  rw [ByteArray.toList_eq, ByteArray.toList_eq]
  exact lbeq a b
theorem eqFields_plain (d : Nat) (X Y : Array Value) : ∀ (fs : List Field) (k : Nat) (ds : List TypeDesc) (xs ys : List Value) (r : Bool), plainB P fs k ds = true → X.toList.drop k = xs → Y.toList.drop k = ys → eqL ds xs ys = some r →
    (Op.eqFields (d + 1) X Y fs).run P w = .ok r w := by
  intro fs
  induction fs with
  | nil =>
    intro k ds xs ys r hp hX hY he
    cases ds with
    | nil =>
      cases xs <;> cases ys <;> simp [eqL] at he
      subst he; rfl
    | cons d ds => simp [plainB] at hp
  | cons f fs ih =>
    intro k ds xs ys r hp hX hY he
    cases ds with
    | nil => simp [plainB] at hp
    | cons d0 ds =>
      simp only [plainB, Bool.and_eq_true] at hp
      obtain ⟨⟨⟨hn, ho⟩, ht⟩, hp⟩ := hp
      have hn' : f.name ≠ "_" := by simpa using hn
      have ho' : f.offset = k := by simpa using ho
      have tailX : ∀ v l, xs = v :: l → X[k]? = some v ∧ X.toList.drop (k + 1) = l := by
        intro v l h
        rw [h] at hX
        have h1 : X.toList[k]? = some v := by
          have := congrArg (·[0]?) hX
          simpa using this
        refine ⟨by simpa using h1, ?_⟩
        have := congrArg (List.drop 1) hX
        simpa [Nat.add_comm] using this
      have tailY : ∀ v l, ys = v :: l → Y[k]? = some v ∧ Y.toList.drop (k + 1) = l := by
        intro v l h
        rw [h] at hY
        have h1 : Y.toList[k]? = some v := by
          have := congrArg (·[0]?) hY
          simpa using this
        refine ⟨by simpa using h1, ?_⟩
        have := congrArg (List.drop 1) hY
        simpa [Nat.add_comm] using this
      simp only [Op.eqFields, if_pos hn', ho']
      unfold eqL at he
      split at he
      · contradiction
      · rename_i ds' a xs' b ys' hq
        injection hq with q1 q2
        subst q1 q2
        obtain ⟨x1, x2⟩ := tailX _ _ rfl
        obtain ⟨y1, y2⟩ := tailY _ _ rfl
        have hu : P.underlying f.type = some .string := by
          revert ht
          cases P.underlying f.type with
          | none => intro h; cases h
          | some u => cases u <;> intro h <;> first | rfl | cases h
        split at he
        · rename_i r' hr'
          obtain rfl := Option.some.inj he
          have := ih (k + 1) _ xs' ys' r' hp x2 y2 hr'
          simp only [Sem.run_bind, run_part hu rfl x1, run_part hu rfl y1, Result.andThen_ok, run_equalIn_string w d f.type _ _ hu, str_beq]
          cases decide (a = b) <;> simp [this]
        · cases he
      · rename_i ds' a xs' b ys' hq
        injection hq with q1 q2
        subst q1 q2
        obtain ⟨x1, x2⟩ := tailX _ _ rfl
        obtain ⟨y1, y2⟩ := tailY _ _ rfl
        have hu : P.underlying f.type = some .bool := by
          revert ht
          cases P.underlying f.type with
          | none => intro h; cases h
          | some u => cases u <;> intro h <;> first | rfl | cases h
        split at he
        · rename_i r' hr'
          obtain rfl := Option.some.inj he
          have := ih (k + 1) _ xs' ys' r' hp x2 y2 hr'
          have hbb : (a == b) = decide (a = b) := by cases a <;> cases b <;> rfl
          simp only [Sem.run_bind, run_part hu rfl x1, run_part hu rfl y1, Result.andThen_ok, run_equalIn_bool' w d f.type _ _ hu, hbb]
          cases decide (a = b) <;> simp [this]
        · cases he
      · rename_i kk ds' k1 a xs' k2 b ys' hq
        injection hq with q1 q2
        subst q1 q2
        obtain ⟨x1, x2⟩ := tailX _ _ rfl
        obtain ⟨y1, y2⟩ := tailY _ _ rfl
        split at he
        · rename_i r' e1 e2 hr'
          obtain rfl := Option.some.inj he
          obtain rfl := kEq_eq e1
          obtain rfl := kEq_eq e2
          have hu : P.underlying f.type = some (.int kk) := by
            revert ht
            cases P.underlying f.type with
            | none => intro h; cases h
            | some u => cases u <;> intro h <;> first | (rw [kEq_eq h]) | cases h
          have := ih (k + 1) _ xs' ys' r' hp x2 y2 hr'
          have hbb : (a == b) = decide (a = b) := by by_cases e : a = b <;> simp [e]
          simp only [Sem.run_bind, run_part hu rfl x1, run_part hu rfl y1, Result.andThen_ok, run_equalIn_int w d f.type _ _ _ _ hu, hbb]
          cases decide (a = b) <;> simp [this]
        · cases he
      · cases he
variable {σ : Env} {d : Option Tmp} {ty t t' : TypeId} {pos : String} {af : Array Edge} {g : Option (Nat × Bool)} {x y : Operand} {ds : List TypeDesc} {xs ys : List Value} {r : Bool}
theorem run_eqS [h : PlainS P t ds] (he : eqL ds xs ys = some r) (k : Nat) : (Op.equalIn (k + 2) t (.agg ⟨xs⟩) (.agg ⟨ys⟩)).run P w = .ok r w := by
  obtain ⟨fs, h1, h2, h3, _⟩ := h.ok
  have hf : P.fieldsOf t = fs := by simp [Program.fieldsOf, h1]
  rw [run_equalIn_struct w (k + 1) t _ _ (by rw [hf]; exact h1) h3, hf]
  exact eqFields_plain k ⟨xs⟩ ⟨ys⟩ fs.toList 0 ds xs ys r h2 rfl rfl he
theorem y_aneq [h : PlainS P t ds] (hx : evl σ x = .agg ⟨xs⟩) (hy : evl σ y = .agg ⟨ys⟩) (he : eqL ds xs ys = some r) : Y P σ ⟨d, .binOp .neq t x y t', ty, pos, af, g⟩ w (.bool (!r)) w := by
  obtain ⟨fs, h1, h2, h3, h4⟩ := h.ok
  refine Y.val ?_
  simp only [execOp, hx, hy, Sem.run_bind, run_eqGuard_agg w .neq t x y _ _ h4, Result.andThen_ok, run_neq_struct]
  rw [show (10000 : Nat) = 9998 + 2 from rfl, run_eqS he]
  rfl
end
end Go.Sv

/- This seat's plain structs as instances (made by a program of ours). -/
namespace Go.Proofs.YthgbpgjpnaanlaaDoor
open Go Go.Sv
instance : PlainS Tryd.prog 50 [.string, .string] := ⟨_, Tryd.underlying50, by kernel_rfl, by kernel_rfl, by kernel_rfl⟩
instance : PlainS Tryd.prog 51 [.string, .string] := ⟨_, Tryd.underlying51, by kernel_rfl, by kernel_rfl, by kernel_rfl⟩
instance : PlainS Tryd.prog 88 [.int .i64, .int .i64, .int .i64] := ⟨_, Tryd.underlying88, by kernel_rfl, by kernel_rfl, by kernel_rfl⟩
instance : PlainS Tryd.prog 89 [.int .i64, .int .i64, .int .i64] := ⟨_, Tryd.underlying89, by kernel_rfl, by kernel_rfl, by kernel_rfl⟩
instance : PlainS Tryd.prog 127 [.int .i32, .int .i64, .int .i64, .bool] := ⟨_, Tryd.underlying127, by kernel_rfl, by kernel_rfl, by kernel_rfl⟩
instance : PlainS Tryd.prog 128 [.int .i32, .int .i64, .int .i64, .bool] := ⟨_, Tryd.underlying128, by kernel_rfl, by kernel_rfl, by kernel_rfl⟩
instance : PlainS Tryd.prog 195 [.string] := ⟨_, Tryd.underlying195, by kernel_rfl, by kernel_rfl, by kernel_rfl⟩
instance : PlainS Tryd.prog 196 [.string] := ⟨_, Tryd.underlying196, by kernel_rfl, by kernel_rfl, by kernel_rfl⟩
end Go.Proofs.YthgbpgjpnaanlaaDoor

/-
  sieveref18: Same, Equal, Ends; sievelaw18: own, same.
-/
set_option linter.unusedSimpArgs false
set_option linter.unusedVariables false
set_option linter.unnecessarySimpa false
namespace Go.Proofs.YthgbpgjpnaanlaaDoor
open Go Go.Sv Go.RowKit

theorem att_at {es : List At} {i : Nat} {x : At} (h : es[i]? = some x) : ((es.flatMap At.cells).drop (i * 2)).take 2 = x.cells := fm_seg At.len es h
set_option maxHeartbeats 2000000 in
theorem evSame_ok (a b : EvM) (ha : a.e.small) (hb : b.e.small) (w : World) (hi : Im [] w a.p (a.e.attrs.flatMap At.cells)) (hj : Im [] w b.p (b.e.attrs.flatMap At.cells)) :
    PureC Tryd.prog 25 #[.agg ⟨a.cells⟩, .agg ⟨b.cells⟩] w (.bool (decide (a.e = b.e))) := by
  obtain ⟨⟨ka, na, ta, es⟩, pa, ca⟩ := a
  obtain ⟨⟨kb, nb, tb, fs⟩, pb', cb⟩ := b
  have h1 := ha.attrs
  have h2 := hb.attrs
  dsimp only at hi hj h1 h2
  have hl1 := fm_len At.len es
  have hl2 := fm_len At.len fs
  refine enter (l := [.agg ⟨EvM.cells ⟨⟨ka, na, ta, es⟩, pa, ca⟩⟩, .agg ⟨EvM.cells ⟨⟨kb, nb, tb, fs⟩, pb', cb⟩⟩]) Tryd.func25 rfl Tryd.ntmps25 (by kernel_rfl) rfl ?_
  have hS := Sep.start w
  refine WC_seq ?_
  refine WC_region ?_
  refine sbox (v := .agg ⟨EvM.cells ⟨⟨ka, na, ta, es⟩, pa, ca⟩⟩) hS fun b2 w1 hS => ?_
  replace hS : Sep w w1 [pOwn b2 [int ka, str na, str ta, .slice pa es.length ca]] := hS
  refine sbox (v := .agg ⟨EvM.cells ⟨⟨kb, nb, tb, fs⟩, pb', cb⟩⟩) hS fun b3 w2 hS => ?_
  replace hS : Sep w w2 [pOwn b3 [int kb, str nb, str tb, .slice pb' fs.length cb], pOwn b2 [int ka, str na, str ta, .slice pa es.length ca]] := hS
  refine sgo ?_
  (show WC _ _ _ _ _ _ _; first | refine WC_dec rfl (fun hc => ?_) (fun hc => ?_) | refine WC_cond rfl (fun hc => ?_) (fun hc => ?_))
  · have hne : (⟨ka, na, ta, es⟩ : Ev) ≠ ⟨kb, nb, tb, fs⟩ := by
      intro h
      injection h with e1 e2 e3 e4
      subst e1 e2 e3 e4
      simp [pkb_or] at hc
    refine sgo ?_
    (first | refine fp1 (.inl rfl) rfl rfl ?_ | refine fp2 (.inl rfl) rfl rfl rfl ?_ | refine fp3 (.inl rfl) rfl rfl rfl rfl ?_ | refine fp0 (.inr rfl) rfl ?_ | refine fp0 (.inl rfl) rfl ?_ | refine fp1 (.inr rfl) rfl rfl ?_); refine ⟨?_, by (first | exact Frm.refl _ | assumption | exact Go.Sv.Sep.frm (by assumption) | (refine Frm.trans ?_ (by assumption); first | exact Frm.refl _ | assumption))⟩; (try simp only [realB, rv_true, Nat.reduceBEq, cond_true, cond_false, entG, real_lif, updGL])
    rw [decide_eq_false hne]
  · simp only [pkb_or, Bool.or_eq_false_iff, decide_eq_false_iff_not, Decidable.not_not] at hc
    obtain ⟨⟨⟨rfl, rfl⟩, rfl⟩, hlen⟩ := hc
    have hle : es.length = fs.length := by omega
    clear hlen
    refine sgo ?_
    refine wcloop (X := Nat) (fun i => [(2, ptrAt (pb b2) 0), (3, ptrAt (pb b3) 0), (36, int es.length), (37, int i)])
      (fun i wr => i ≤ es.length ∧ es.take i = fs.take i ∧ Sep w wr [pOwn b3 [int ka, str na, str ta, .slice pb' fs.length cb], pOwn b2 [int ka, str na, str ta, .slice pa es.length ca]]) (fun i => es.length - i) 0 ⟨rfl, rfl, rfl, rfl, trivial⟩ ⟨Nat.zero_le _, rfl, hS⟩ ?_
    clear hS
    rintro i wr ρ ⟨hil, hpre, hS⟩
    refine sgo ?_
    (show WC _ _ _ _ _ _ _; first | refine WC_dec rfl (fun hc => ?_) (fun hc => ?_) | refine WC_cond rfl (fun hc => ?_) (fun hc => ?_))
    · have hlt : i < es.length := by omega
      have hx : es[i]? = some es[i] := List.getElem?_eq_getElem hlt
      have hy : fs[i]? = some fs[i] := List.getElem?_eq_getElem (by omega)
      have hsx := att_at hx
      have hsy := att_at hy
      have hpa : ∃ a, pa = some a := hi.some (by omega)
      have hpb : ∃ a, pb' = some a := hj.some (by omega)
      have htx : es.take (i + 1) = es.take i ++ [es[i]] := by rw [List.take_add_one, hx]; rfl
      have hty : fs.take (i + 1) = fs.take i ++ [fs[i]] := by rw [List.take_add_one, hy]; rfl
      generalize es[i] = x at *
      generalize fs[i] = y at *
      clear hc
      refine sgo ?_
      refine wcdraw ?_
      refine qgo ?_
      rw [hsx, hsy]
      refine ql (v := .bool (!(decide (x.n = y.n) && (decide (x.v = y.v) && true)))) ?_ (YQ.ofY fun w _ => y_aneq rfl rfl rfl)
      refine QL_nil ?_
      intro w3 hf3
      replace hS := hS.grow hf3
      obtain ⟨xn, xv⟩ := x
      obtain ⟨yn, yv⟩ := y
      refine sgo ?_
      (show WC _ _ _ _ _ _ _; first | refine WC_dec rfl (fun hc => ?_) (fun hc => ?_) | refine WC_cond rfl (fun hc => ?_) (fun hc => ?_))
      · have hne : (⟨ka, na, ta, es⟩ : Ev) ≠ ⟨ka, na, ta, fs⟩ := by
          intro h
          injection h with e1 e2 e3 e4
          subst e4
          rw [hx] at hy
          injection hy with hy
          injection hy with e1 e2
          subst e1 e2
          simp at hc
        refine sgo ?_
        (first | refine fp1 (.inl rfl) rfl rfl ?_ | refine fp2 (.inl rfl) rfl rfl rfl ?_ | refine fp3 (.inl rfl) rfl rfl rfl rfl ?_ | refine fp0 (.inr rfl) rfl ?_ | refine fp0 (.inl rfl) rfl ?_ | refine fp1 (.inr rfl) rfl rfl ?_); refine ⟨?_, by (first | exact Frm.refl _ | assumption | exact Go.Sv.Sep.frm (by assumption) | (refine Frm.trans ?_ (by assumption); first | exact Frm.refl _ | assumption))⟩; (try simp only [realB, rv_true, Nat.reduceBEq, cond_true, cond_false, entG, real_lif, updGL])
        rw [decide_eq_false hne]
      · refine sgo ?_
        refine ⟨i + 1, ⟨rfl, rfl, rfl, rfl, trivial⟩, ⟨hlt, ?_, hS⟩, (by (try dsimp only); omega)⟩
        rw [htx, hty, hpre]
        simp at hc
        rw [hc.1, hc.2]
    · obtain rfl : i = es.length := by omega
      rw [List.take_length, hle, List.take_length] at hpre
      refine sgo ?_
      (first | refine fp1 (.inl rfl) rfl rfl ?_ | refine fp2 (.inl rfl) rfl rfl rfl ?_ | refine fp3 (.inl rfl) rfl rfl rfl rfl ?_ | refine fp0 (.inr rfl) rfl ?_ | refine fp0 (.inl rfl) rfl ?_ | refine fp1 (.inr rfl) rfl rfl ?_); refine ⟨?_, by (first | exact Frm.refl _ | assumption | exact Go.Sv.Sep.frm (by assumption) | (refine Frm.trans ?_ (by assumption); first | exact Frm.refl _ | assumption))⟩; (try simp only [realB, rv_true, Nat.reduceBEq, cond_true, cond_false, entG, real_lif, updGL])
      rw [hpre, decide_eq_true rfl]
end Go.Proofs.YthgbpgjpnaanlaaDoor

/-
  sievelaw18: own; event: copied.
-/
set_option linter.unusedSimpArgs false
set_option linter.unusedVariables false
set_option linter.unnecessarySimpa false
namespace Go.Proofs.YthgbpgjpnaanlaaDoor
open Go Go.Sv Go.RowKit

theorem att_one (es : List At) : ∀ u ∈ es.flatMap At.cells, u.oneCell' = true := by
  intro u hu
  obtain ⟨x, _, hx⟩ := List.mem_flatMap.1 hu
  simp only [At.cells, List.mem_cons, List.not_mem_nil, or_false] at hx
  rcases hx with rfl | rfl <;> rfl
theorem evs_flat (ns : List EvM) (m : EvM) : ns.flatMap EvM.cells ++ m.cells = (ns ++ [m]).flatMap EvM.cells := by simp
theorem evs_snoc (ns : List EvM) (m : EvM) : evs (ns ++ [m]) = evs ns ++ [m.e] := by simp [evs]
set_option maxHeartbeats 2000000 in
theorem evOwn_ok (ms : List EvM) (p : Option Addr) (c : Nat) (hn : ms.length ≤ 1048576) (hs : ∀ m ∈ ms, m.e.small) (w0 w : World) (cs : List Plot) (hS0 : Sep w0 w cs) (hE : Evs w p ms) :
    CallsR Tryd.prog 14 #[.slice p ms.length c] w fun v w' => ∃ q cc ns, v = .slice q ns.length cc ∧ evs ns = evs ms ∧ Frm w w' ∧ Sep w0 w' (pRow 4 q ns.length cc (ns.flatMap EvM.cells) :: pMany (ns.map EvM.row) :: cs) := by
  have hS := Sep.start w
  refine enter (l := [.slice p ms.length c]) Tryd.func14 rfl Tryd.ntmps14 (by kernel_rfl) rfl ?_
  refine sgo ?_
  refine wlmake0 (c := ms.length + 1) (kc := .i64) (fun b w1 hb hr hf => ?_) (hy := by show Value.int .i64 ((ms.length : Int) + 1) = .int .i64 ((ms.length + 1 : Nat) : Int); rw [Int.natCast_add]; rfl)
  replace hS := (hS.push (c := pMany []) (Frm.refl w) (many_nil w) (by simp [pMany])).push (c := pRow 4 (pb b) 0 (ms.length + 1) []) hf hr (by simpa [pRow, rb] using hb)
  refine sgo ?_
  refine wcloop (X := Nat × Option Addr × Nat × List EvM) (fun x => [(3, .slice x.2.1 x.1 x.2.2.1), (10, .slice p ms.length c), (11, int ms.length), (12, int x.1)])
    (fun x wr => x.1 ≤ ms.length ∧ x.2.2.2.length = x.1 ∧ evs x.2.2.2 = (evs ms).take x.1 ∧ Sep w wr [pRow 4 x.2.1 x.1 x.2.2.1 (x.2.2.2.flatMap EvM.cells), pMany (x.2.2.2.map EvM.row)])
    (fun x => ms.length - x.1) (0, pb b, ms.length + 1, []) ⟨rfl, rfl, rfl, rfl, trivial⟩ ⟨Nat.zero_le _, rfl, rfl, hS⟩ ?_
  clear hS hr hf
  rintro ⟨i, q, cc, ns⟩ wr ρ ⟨hil, hnl, hev, hS⟩
  dsimp only at *
  have hIm := hE.im
  refine sgo ?_
  (show WC _ _ _ _ _ _ _; first | refine WC_dec rfl (fun hc => ?_) (fun hc => ?_) | refine WC_cond rfl (fun hc => ?_) (fun hc => ?_))
  · have hlt : i < ms.length := by omega
    have hx : ms[i]? = some ms[i] := List.getElem?_eq_getElem hlt
    have hmem : ms[i] ∈ ms := List.getElem_mem hlt
    have hseg := fm_seg EvM.len ms hx
    have hfl := fm_len EvM.len ms
    have hat := hE.each _ hmem
    have hsm := hs _ hmem
    have hps : ∃ a, p = some a := hE.im.sg.some (by omega)
    have htk : (evs ms).take (i + 1) = (evs ms).take i ++ [ms[i].e] := by rw [List.take_add_one, evs_at hx]; rfl
    generalize ms[i] = m at *
    clear hc
    obtain ⟨⟨kd, nm, tx, es⟩, mp, mc⟩ := m
    have hes := hsm.attrs
    dsimp only at hat hes
    have hl1 := fm_len At.len es
    refine sgo ?_
    rw [hseg]
    refine salloc hS fun b5 w5 hS => ?_
    refine sgo ?_
    refine ssta (vs := [int kd, str nm, str tx, .slice mp es.length mc]) hS 0 fun w6 hS => ?_
    replace hS : Sep w w6 [pOwn b5 [int kd, str nm, str tx, .slice mp es.length mc], pRow 4 q i cc (ns.flatMap EvM.cells), pMany (ns.map EvM.row)] := hS
    refine sgo ?_
    refine sb0 hS fun b9 w9 hS => ?_
    refine sgo ?_
    refine sapp hS 0 (hat.sep hS).sg (fun q2 c2 w10 hS => ?_) (hl := by omega) (h1 := att_one es)
    rw [List.nil_append, show 0 + es.length = es.length from Nat.zero_add _] at hS
    rw [show 0 + es.length = es.length from Nat.zero_add _]
    refine sgo ?_
    refine sst_slice hS 1 fun w11 hS => ?_
    refine sgo ?_
    refine sb1a (vs := EvM.cells ⟨⟨kd, nm, tx, es⟩, q2, c2⟩) hS fun b12 w12 hS => ?_
    refine sgo ?_
    refine sapp hS 3 (hS.own 0 rfl).sg (fun q4 c4 w13 hS => ?_) (h1 := ev_one _ _ _)
    rw [evs_flat] at hS
    refine sgo ?_
    have h1 := (hS.drop 0 rfl).drop 1 rfl
    have h2 := (((h1.front 2 rfl).front 1 rfl).more).front 1 rfl
    refine ⟨(i + 1, q4, c4, ns ++ [⟨⟨kd, nm, tx, es⟩, q2, c2⟩]), ⟨rfl, rfl, rfl, rfl, trivial⟩, ⟨hlt, by simp [hnl], by dsimp only; rw [evs_snoc, hev, htk], ?_⟩, (by (try dsimp only); omega)⟩
    rw [List.map_append]
    exact h2
  · obtain rfl : i = ms.length := by omega
    refine sgo ?_
    (first | refine fp1 (.inl rfl) rfl rfl ?_ | refine fp2 (.inl rfl) rfl rfl rfl ?_ | refine fp3 (.inl rfl) rfl rfl rfl rfl ?_ | refine fp0 (.inr rfl) rfl ?_ | refine fp0 (.inl rfl) rfl ?_ | refine fp1 (.inr rfl) rfl rfl ?_)
    rw [← evs_len ms, List.take_length] at hev
    exact ⟨q, cc, ns, by rw [hnl]; rfl, hev, hS.frm, by rw [hnl]; exact hS0.seq (ds := [_, _]) hS⟩
end Go.Proofs.YthgbpgjpnaanlaaDoor

/-
  sievelaw18: awake, EventNames.
-/
set_option linter.unusedSimpArgs false
set_option linter.unusedVariables false
set_option linter.unnecessarySimpa false
namespace Go.Proofs.YthgbpgjpnaanlaaDoor
open Go Go.Sv Go.RowKit

theorem num18_ok (k : Int) (w : World) : PureC Tryd.prog 12 #[int k] w (int k) := by
  refine enter (l := [int k]) Tryd.func12 rfl Tryd.ntmps12 (by kernel_rfl) rfl ?_
  refine sgo ?_
  (first | refine fp1 (.inl rfl) rfl rfl ?_ | refine fp2 (.inl rfl) rfl rfl rfl ?_ | refine fp3 (.inl rfl) rfl rfl rfl rfl ?_ | refine fp0 (.inr rfl) rfl ?_ | refine fp0 (.inl rfl) rfl ?_ | refine fp1 (.inr rfl) rfl rfl ?_); refine ⟨?_, by (first | exact Frm.refl _ | assumption | exact Go.Sv.Sep.frm (by assumption) | (refine Frm.trans ?_ (by assumption); first | exact Frm.refl _ | assumption))⟩; (try simp only [realB, rv_true, Nat.reduceBEq, cond_true, cond_false, entG, real_lif, updGL])
def ex1 : List EvM := [⟨⟨1, [98], [], []⟩, none, 0⟩, ⟨⟨2, [105], [], []⟩, none, 0⟩]
def ex2 : List EvM := [⟨⟨3, [98, 114], [], []⟩, none, 0⟩]
theorem ex1_lk : (lkR (evs ex1)).at_ = 1 ∧ (lkR (evs ex1)).err = 181 := by decide +kernel
theorem ex2_lk : (lkR (evs ex2)).most = 1 ∧ (lkR (evs ex2)).err = 0 := by decide +kernel
theorem exs_small : (∀ m ∈ ex1, m.e.small) ∧ ∀ m ∈ ex2, m.e.small := by
  constructor
  · intro m hm
    simp only [ex1, List.mem_cons, List.not_mem_nil, or_false] at hm
    rcases hm with rfl | rfl <;> exact ⟨by decide, by decide, by decide, by simp⟩
  · intro m hm
    simp only [ex2, List.mem_cons, List.not_mem_nil, or_false] at hm
    subst hm
    exact ⟨by decide, by decide, by decide, by simp⟩
set_option maxHeartbeats 1000000 in
theorem awake18_ok (w : World) (hA : Asc w) : PureC Tryd.prog 13 #[] w (.bool true) := by
  refine enter (l := []) Tryd.func13 rfl Tryd.ntmps13 (by kernel_rfl) rfl ?_
  have hS := Sep.start w
  refine sgo ?_
  refine wlbuild ?_
  refine wlbuild ?_
  refine wlbsr (vs := ex1.map EvM.cells) 2 (fun b w1 hb ho hf => ?_) (h1 := fun v hv => by obtain ⟨m, _, rfl⟩ := List.mem_map.1 hv; rfl)
  replace hS : Sep w w1 [pOwn b (ex1.flatMap EvM.cells)] := hS.push hf ho (by simpa [pOwn] using hb)
  refine wlpure (nested_ok ex1 (pb b) 2 (by decide) exs_small.1 w1 (hA.frm hS.frm) ⟨(hS.own 0 rfl).im (by simp), ?_⟩) fun w2 hf2 => ?_
  · intro m hm
    simp only [ex1, List.mem_cons, List.not_mem_nil, or_false] at hm
    rcases hm with rfl | rfl <;> exact Im.nil _ _ _
  replace hS := (hS.grow hf2).empty
  rw [ex1_lk.1, ex1_lk.2]
  refine sgo ?_
  refine wlbuild ?_
  refine sb1a (vs := ex2.flatMap EvM.cells) hS fun b3 w3 hS => ?_
  refine wlpure (depth_ok ex2 (pb b3) 1 (by decide) exs_small.2 w3 (hA.frm hS.frm) ⟨(hS.own 0 rfl).im (by simp), ?_⟩) fun w4 hf4 => ?_
  · intro m hm
    simp only [ex2, List.mem_cons, List.not_mem_nil, or_false] at hm
    subst hm; exact Im.nil _ _ _
  replace hS := hS.grow hf4
  rw [if_pos ex2_lk.2, ex2_lk.1]
  refine sgo ?_
  refine wlcallgp (vals := [int 181]) (fun _ => num18_ok 181 _) fun w5 hf5 => ?_
  replace hS := hS.grow hf5
  refine sgo ?_
  refine wlcallgp (vals := [int 0]) (fun _ => num18_ok 0 _) fun w6 hf6 => ?_
  replace hS := hS.grow hf6
  refine sgo ?_
  (first | refine fp1 (.inl rfl) rfl rfl ?_ | refine fp2 (.inl rfl) rfl rfl rfl ?_ | refine fp3 (.inl rfl) rfl rfl rfl rfl ?_ | refine fp0 (.inr rfl) rfl ?_ | refine fp0 (.inl rfl) rfl ?_ | refine fp1 (.inr rfl) rfl rfl ?_); refine ⟨?_, by (first | exact Frm.refl _ | assumption | exact Go.Sv.Sep.frm (by assumption) | (refine Frm.trans ?_ (by assumption); first | exact Frm.refl _ | assumption))⟩; (try simp only [realB, rv_true, Nat.reduceBEq, cond_true, cond_false, entG, real_lif, updGL])
  simp [pkb]
end Go.Proofs.YthgbpgjpnaanlaaDoor

/-
  sieveref18: At.
-/
set_option linter.unusedSimpArgs false
set_option linter.unusedVariables false
set_option linter.unnecessarySimpa false
namespace Go.Proofs.YthgbpgjpnaanlaaDoor
open Go Go.Sv Go.RowKit

theorem greater_ok (a b : Int) (w : World) : PureC Tryd.prog 47 #[int a, int b] w (int (max a b)) := by
  refine enter (l := [int a, int b]) Tryd.func47 rfl Tryd.ntmps47 (by kernel_rfl) rfl ?_
  refine sgo ?_
  (show WC _ _ _ _ _ _ _; first | refine WC_dec rfl (fun hc => ?_) (fun hc => ?_) | refine WC_cond rfl (fun hc => ?_) (fun hc => ?_))
  · refine sgo ?_
    (first | refine fp1 (.inl rfl) rfl rfl ?_ | refine fp2 (.inl rfl) rfl rfl rfl ?_ | refine fp3 (.inl rfl) rfl rfl rfl rfl ?_ | refine fp0 (.inr rfl) rfl ?_ | refine fp0 (.inl rfl) rfl ?_ | refine fp1 (.inr rfl) rfl rfl ?_); refine ⟨?_, by (first | exact Frm.refl _ | assumption | exact Go.Sv.Sep.frm (by assumption) | (refine Frm.trans ?_ (by assumption); first | exact Frm.refl _ | assumption))⟩; (try simp only [realB, rv_true, Nat.reduceBEq, cond_true, cond_false, entG, real_lif, updGL])
    rw [Int.max_eq_left (by omega)]
  · refine sgo ?_
    (first | refine fp1 (.inl rfl) rfl rfl ?_ | refine fp2 (.inl rfl) rfl rfl rfl ?_ | refine fp3 (.inl rfl) rfl rfl rfl rfl ?_ | refine fp0 (.inr rfl) rfl ?_ | refine fp0 (.inl rfl) rfl ?_ | refine fp1 (.inr rfl) rfl rfl ?_); refine ⟨?_, by (first | exact Frm.refl _ | assumption | exact Go.Sv.Sep.frm (by assumption) | (refine Frm.trans ?_ (by assumption); first | exact Frm.refl _ | assumption))⟩; (try simp only [realB, rv_true, Nat.reduceBEq, cond_true, cond_false, entG, real_lif, updGL])
    rw [Int.max_eq_right (by omega)]
def Lk.cells (k : Lk) (q : Option Addr) (c : Nat) : List Value := [.slice q k.stack.length c, int k.most, int k.at_, int k.err, int k.good]

theorem lk_next {k : Lk} {e : Ev} (h0 : k.err = 0) (he : evR e = true) : lkStep k e =
    if e.kind = 1 then ⟨k.stack ++ [e.name], max k.most (k.stack.length + 1), 0, 0, k.good + 1⟩
      else if e.kind = 3 then ⟨k.stack, max k.most (k.stack.length + 1), 0, 0, k.good + 1⟩
      else if e.kind = 2 then (if k.stack.getLast? = some e.name then ⟨k.stack.dropLast, k.most, 0, 0, k.good + 1⟩ else { k with at_ := k.good, err := 181 })
      else ⟨k.stack, k.most, 0, 0, k.good + 1⟩ := by
  rw [lkStep, if_pos h0, if_pos he]
set_option maxHeartbeats 2000000 in
theorem at_ok (ms : List EvM) (p : Option Addr) (c : Nat) (hn : ms.length ≤ 1048576) (hs : ∀ m ∈ ms, m.e.small) (w0 w : World) (cs : List Plot) (hS0 : Sep w0 w cs) (hE : Evs w p ms) :
    CallsR Tryd.prog 19 #[.slice p ms.length c] w fun v w' => ∃ q cc, v = .agg ⟨(lkR (evs ms)).cells q cc⟩ ∧ Frm w w' ∧ Sep w0 w' (pRow 1 q (lkR (evs ms)).stack.length cc (strs (lkR (evs ms)).stack) :: cs) := by
  have hS := Sep.start w
  refine enter (l := [.slice p ms.length c]) Tryd.func19 rfl Tryd.ntmps19 (by kernel_rfl) rfl ?_
  refine sgo ?_
  refine salloc hS fun b2 w2 hS => ?_
  refine sgo ?_
  refine salloc hS fun b3 w3 hS => ?_
  replace hS : Sep w w3 [pOwn b3 [.slice none 0 0, int 0, int 0, int 0, int 0], pOwn b2 [.slice none 0 0, int 0, int 0, int 0, int 0]] := hS
  replace hS := (hS.push (c := pRow 1 none 0 0 (strs [])) (Frm.refl w3) (Row.nil w3 1) (by simp [pRow, rb]))
  refine sgo ?_
  refine wcloop (X := Nat × Option Addr × Nat) (fun x => [(0, .slice p ms.length c), (2, ptrAt (pb b2) 0), (3, ptrAt (pb b3) 0), (7, .slice p ms.length c), (8, int ms.length), (9, int x.1)])
    (fun x wr => x.1 ≤ ms.length ∧ (lkI ms x.1).err = 0 ∧ Sep w wr [pRow 1 x.2.1 (lkI ms x.1).stack.length x.2.2 (strs (lkI ms x.1).stack), pOwn b3 [.slice x.2.1 (lkI ms x.1).stack.length x.2.2, int (lkI ms x.1).most, int 0, int 0, int 0], pOwn b2 [.slice none 0 0, int 0, int 0, int 0, int 0]])
    (fun x => ms.length - x.1) (0, none, 0) ⟨rfl, rfl, rfl, rfl, rfl, rfl, trivial⟩ ⟨Nat.zero_le _, rfl, hS⟩ ?_
  clear hS
  rintro ⟨i, q, cc⟩ wr ρ ⟨hil, herr, hS⟩
  dsimp only at *
  have hok := lkI_ok hil herr
  refine sgo ?_
  (show WC _ _ _ _ _ _ _; first | refine WC_dec rfl (fun hc => ?_) (fun hc => ?_) | refine WC_cond rfl (fun hc => ?_) (fun hc => ?_))
  · have hlt : i < ms.length := by omega
    have hx : ms[i]? = some ms[i] := List.getElem?_eq_getElem hlt
    have hmem : ms[i] ∈ ms := List.getElem_mem hlt
    have hseg := fm_seg EvM.len ms hx
    have hfl := fm_len EvM.len ms
    have hat := hE.each _ hmem
    have hsm := hs _ hmem
    have hps : ∃ a, p = some a := hE.im.sg.some (by omega)
    have hIm := hE.im
    have hsuc := lkI_succ hx
    generalize ms[i] = m at *
    generalize hk : lkI ms i = k at *
    clear hc
    obtain ⟨⟨kd, nm, tx, es⟩, mp, mc⟩ := m
    dsimp only at hsuc hat
    refine sgo ?_
    rw [hseg]
    refine salloc hS fun b5 w5 hS => ?_
    refine sgo ?_
    refine ssta (vs := [int kd, str nm, str tx, .slice mp es.length mc]) hS 0 fun w6 hS => ?_
    replace hS : Sep w w6 [pOwn b5 [int kd, str nm, str tx, .slice mp es.length mc], pRow 1 q k.stack.length cc (strs k.stack), pOwn b3 [.slice q k.stack.length cc, int k.most, int 0, int 0, int 0], pOwn b2 [.slice none 0 0, int 0, int 0, int 0, int 0]] := hS
    refine sgo ?_
    refine wlpure (refEvCheck_ok ⟨kd, nm, tx, es⟩ mp mc hsm w6 (hat.sep hS)) fun w7 hf7 => ?_
    replace hS := hS.grow hf7
    cases he : evR ⟨kd, nm, tx, es⟩ with
    | false =>
      have hst1 : lkStep k ⟨kd, nm, tx, es⟩ = { k with at_ := k.good, err := 180 } := by simp [lkStep, herr, he]
      have hend := lkI_stop (ms := ms) (i := i + 1) (by rw [hsuc, hst1]; exact (by decide : (180 : Int) ≠ 0))
      rw [hsuc, hst1] at hend
      refine sgo ?_
      refine wlbuild ?_
      refine ssta (vs := [.slice q k.stack.length cc, int k.most, int i, int 180, int i]) hS 3 fun w8 hS => ?_
      refine sgo ?_
      refine fpc (l := [.slice q k.stack.length cc, int k.most, int i, int 180, int i]) (.inl rfl) rfl rfl rfl (hS.own 3 rfl) ⟨q, cc, ?_, hS.frm, ?_⟩
      · rw [hend]; simp only [Lk.cells, hok.2.1]
      · rw [hend]; exact hS0.seq (ds := [_]) (hS.tail.sub (List.Sublist.cons_cons _ (List.nil_sublist _)))
    | true =>
      have hst1 := lk_next (e := ⟨kd, nm, tx, es⟩) herr he
      dsimp only at hst1
      refine sgo ?_
      (show WC _ _ _ _ _ _ _; first | refine WC_dec rfl (fun hc => ?_) (fun hc => ?_) | refine WC_cond rfl (fun hc => ?_) (fun hc => ?_))
      · replace hc : kd = 1 := hc
        subst hc
        rw [if_pos rfl] at hst1
        rw [hst1] at hsuc
        refine sgo ?_
        refine sb1s hS fun b9 w9 hS => ?_
        refine sgo ?_
        refine sapp hS 2 (hS.own 0 rfl).sg fun q' c' w10 hS => ?_
        rw [strs_snoc] at hS
        have hnl : k.stack.length + 1 = (k.stack ++ [nm]).length := by simp
        rw [hnl] at hS ⊢
        refine sgo ?_
        refine sst_slice hS 3 fun w11 hS => ?_
        refine sgo ?_
        refine wlpure (greater_ok _ _ _) fun w12 hf12 => ?_
        replace hS := hS.grow hf12
        have e : max (k.most : Int) ((k.stack ++ [nm]).length : Int) = ((max k.most (k.stack.length + 1) : Nat) : Int) := by rw [← hnl]; omega
        rw [e]
        refine sgo ?_
        refine sst_int hS 3 fun w13 hS => ?_
        refine sgo ?_
        refine ⟨(i + 1, q', c'), ⟨rfl, rfl, rfl, rfl, rfl, rfl, trivial⟩, ⟨hlt, by dsimp only; rw [hsuc], ?_⟩, (by (try dsimp only); omega)⟩
        dsimp only
        rw [hsuc]
        exact hS.tail.tail
      · replace hc : ¬ kd = 1 := hc
        have hk1 := hc
        clear hc
        rw [if_neg hk1] at hst1
        refine sgo ?_
        (show WC _ _ _ _ _ _ _; first | refine WC_dec rfl (fun hc => ?_) (fun hc => ?_) | refine WC_cond rfl (fun hc => ?_) (fun hc => ?_))
        · replace hc : kd = 3 := hc
          subst hc
          rw [if_pos rfl] at hst1
          rw [hst1] at hsuc
          refine sgo ?_
          refine wlpure (greater_ok _ _ _) fun w12 hf12 => ?_
          replace hS := hS.grow hf12
          have e : max (k.most : Int) ((k.stack.length : Int) + 1) = ((max k.most (k.stack.length + 1) : Nat) : Int) := by omega
          rw [e]
          refine sgo ?_
          refine sst_int hS 2 fun w13 hS => ?_
          refine sgo ?_
          refine ⟨(i + 1, q, cc), ⟨rfl, rfl, rfl, rfl, rfl, rfl, trivial⟩, ⟨hlt, by dsimp only; rw [hsuc], ?_⟩, (by (try dsimp only); omega)⟩
          dsimp only
          rw [hsuc]
          exact hS.tail
        · replace hc : ¬ kd = 3 := hc
          have hk3 := hc
          clear hc
          rw [if_neg hk3] at hst1
          refine sgo ?_
          (show WC _ _ _ _ _ _ _; first | refine WC_dec rfl (fun hc => ?_) (fun hc => ?_) | refine WC_cond rfl (fun hc => ?_) (fun hc => ?_))
          · replace hc : kd = 2 := hc
            subst hc
            rw [if_pos rfl] at hst1
            refine sgo ?_
            by_cases he0 : k.stack = []
            · have hst2 : lkStep k ⟨2, nm, tx, es⟩ = { k with at_ := k.good, err := 181 } := by rw [hst1, if_neg (by rw [he0]; simp)]
              have hend := lkI_stop (ms := ms) (i := i + 1) (by rw [hsuc, hst2]; exact (by decide : (181 : Int) ≠ 0))
              rw [hsuc, hst2] at hend
              have hl0 : k.stack.length = 0 := by rw [he0]; rfl
              refine wcdraw ?_
              refine qgo ?_
              refine qlg (v := .nilIface) ?_ rfl rfl (fun hh => absurd hh (by simp [hl0])) 
              refine qlg (v := str []) ?_ rfl rfl (fun hh => absurd hh (by simp [hl0])) 
              refine qgo ?_
              refine QL_nil ?_
              intro w8 hf8
              replace hS := hS.grow hf8
              refine sgo ?_
              refine wcyes ?_ (ht := by simp [pkb_or, hl0])
              refine sgo ?_
              refine wlbuild ?_
              refine ssta (vs := [.slice q k.stack.length cc, int k.most, int i, int 181, int i]) hS 3 fun w8 hS => ?_
              refine sgo ?_
              refine fpc (l := [.slice q k.stack.length cc, int k.most, int i, int 181, int i]) (.inl rfl) rfl rfl rfl (hS.own 3 rfl) ⟨q, cc, ?_, hS.frm, ?_⟩
              · rw [hend]; simp only [Lk.cells, hok.2.1]
              · rw [hend]; exact hS0.seq (ds := [_]) (hS.tail.sub (List.Sublist.cons_cons _ (List.nil_sublist _)))
            · have hpos : 0 < k.stack.length := List.length_pos_iff.2 he0
              have hq : ∃ a, q = some a := (hS.row 1 rfl).sg.some (by rw [strs_len]; exact hpos)
              have hle := (hS.row 1 rfl).le_cap
              have hg : (strs k.stack)[((k.stack.length : Int) - 1).toNat]? = some (str (k.stack.getLast?.getD [])) := by
                rw [show ((k.stack.length : Int) - 1).toNat = k.stack.length - 1 by omega, strs, List.getElem?_map, List.getLast?_eq_getElem?, List.getElem?_eq_getElem (by omega)]
                rfl
              refine wcdraw ?_
              refine qgo ?_
              refine QL_nil ?_
              intro w8 hf8
              replace hS := hS.grow hf8
              have hB2 : pkb (decide ((k.stack.length : Int) - 1 < 0)) true (decide (k.stack.getLast?.getD [] ≠ nm)) = !decide (k.stack.getLast? = some nm) := by
                have h1 : decide ((k.stack.length : Int) - 1 < 0) = false := decide_eq_false (by omega)
                rw [h1]
                cases hl : k.stack.getLast? with
                | none => exact absurd (List.getLast?_eq_none_iff.1 hl) he0
                | some z => simp [pkb]
              refine sgo ?_
              by_cases hl : k.stack.getLast? = some nm
              · rw [if_pos hl] at hst1
                rw [hst1] at hsuc
                refine wcno ?_ (ht := by rw [hB2]; simp [hl])
                clear hB2 hg
                refine sgo ?_
                refine sb0 hS fun b9 w9 hS => ?_
                refine sgo ?_
                have hdl : ((k.stack.length : Int) - 1).toNat = k.stack.dropLast.length := by simp
                have hrt := (hS.row 2 rfl).take (j := k.stack.dropLast.length) (by simp)
                rw [Nat.mul_one, show (strs k.stack).take k.stack.dropLast.length = strs k.stack.dropLast from by rw [strs, strs, ← List.map_take, List.length_dropLast, List.dropLast_eq_take]] at hrt
                rw [hdl]
                refine sapp hS 0 hrt.sg (fun q' c' w10 hS => ?_) (h1 := strs_one _) (hl := by rw [strs_len, Nat.mul_one]) (hb := by simp; omega)
                rw [List.nil_append, Nat.zero_add] at hS
                rw [Nat.zero_add]
                refine sgo ?_
                refine sst_slice hS 3 fun w11 hS => ?_
                refine sgo ?_
                refine ⟨(i + 1, q', c'), ⟨rfl, rfl, rfl, rfl, rfl, rfl, trivial⟩, ⟨hlt, by dsimp only; rw [hsuc], ?_⟩, (by (try dsimp only); omega)⟩
                dsimp only
                rw [hsuc]
                have h2 := hS.drop 1 rfl
                have h3 := h2.drop 1 rfl
                simp only [Nat.zero_add] at h3
                exact h3
              · rw [if_neg hl] at hst1
                have hend := lkI_stop (ms := ms) (i := i + 1) (by rw [hsuc, hst1]; exact (by decide : (181 : Int) ≠ 0))
                rw [hsuc, hst1] at hend
                refine wcyes ?_ (ht := by rw [hB2]; simp [hl])
                refine sgo ?_
                refine wlbuild ?_
                refine ssta (vs := [.slice q k.stack.length cc, int k.most, int i, int 181, int i]) hS 3 fun w8 hS => ?_
                refine sgo ?_
                refine fpc (l := [.slice q k.stack.length cc, int k.most, int i, int 181, int i]) (.inl rfl) rfl rfl rfl (hS.own 3 rfl) ⟨q, cc, ?_, hS.frm, ?_⟩
                · rw [hend]; simp only [Lk.cells, hok.2.1]
                · rw [hend]; exact hS0.seq (ds := [_]) (hS.tail.sub (List.Sublist.cons_cons _ (List.nil_sublist _)))
          · replace hc : ¬ kd = 2 := hc
            rw [if_neg hc] at hst1
            rw [hst1] at hsuc
            refine sgo ?_
            refine ⟨(i + 1, q, cc), ⟨rfl, rfl, rfl, rfl, rfl, rfl, trivial⟩, ⟨hlt, by dsimp only; rw [hsuc], ?_⟩, (by (try dsimp only); omega)⟩
            dsimp only
            rw [hsuc]
            exact hS.tail
  · obtain rfl : i = ms.length := by omega
    rw [lkI_all] at *
    clear hc
    refine sgo ?_
    refine sst_int hS 1 fun w8 hS => ?_
    refine sgo ?_
    refine ssta (vs := [.slice q (lkR (evs ms)).stack.length cc, int (lkR (evs ms)).most, int 0, int 0, int ms.length]) hS 2 fun w9 hS => ?_
    refine sgo ?_
    refine fpc (l := [.slice q (lkR (evs ms)).stack.length cc, int (lkR (evs ms)).most, int 0, int 0, int ms.length]) (.inl rfl) rfl rfl rfl (hS.own 2 rfl) ⟨q, cc, ?_, hS.frm, ?_⟩
    · simp only [Lk.cells, hok.2.1, hok.1, herr]; rfl
    · exact hS0.seq (ds := [_]) (hS.sub (List.Sublist.cons_cons _ (List.nil_sublist _)))
end Go.Proofs.YthgbpgjpnaanlaaDoor

/-
  sievelaw18: EventNests.
-/
set_option linter.unusedSimpArgs false
set_option linter.unusedVariables false
set_option linter.unnecessarySimpa false
namespace Go.Sv
open Go Go.RowKit
end Go.Sv
namespace Go.Proofs.YthgbpgjpnaanlaaDoor
open Go Go.Sv Go.RowKit

def depthS (k : Lk) : Nat := if k.err = 0 then k.most else 0
end Go.Proofs.YthgbpgjpnaanlaaDoor

/-
  Package event: copied, Wrap; sievelaw18: spoil.
-/
set_option linter.unusedSimpArgs false
set_option linter.unusedVariables false
set_option linter.unnecessarySimpa false
namespace Go.Sv
open Go Go.RowKit
theorem y_slnil {P : Program} {σ : Env} {w : World} {d : Option Tmp} {ty t t' e : TypeId} {pos : String} {af : Array Edge} {g : Option (Nat × Bool)} {x y : Operand} {p : Option Addr} {n c : Nat} [hu : Und P t (.slice e)] (hx : evl σ x = .slice p n c) (hy : evl σ y = .slice none 0 0) : Y P σ ⟨d, .binOp .eql t x y t', ty, pos, af, g⟩ w (.bool p.isNone) w := by
  refine Y.val ?_
  have h : ∀ k : Nat, (Op.equalIn (k + 1) t (.slice p n c) (.slice none 0 0)).run P w = .ok p.isNone w := fun k => by
    cases p <;> simp [Op.equalIn, run_underlying hu.ok]
  simp only [execOp, hx, hy]
  simp [eqGuard, binOp, Op.equal, Op.maxDepth, h 9999]
end Go.Sv
namespace Go.Proofs.YthgbpgjpnaanlaaDoor
open Go Go.Sv Go.RowKit

set_option maxHeartbeats 1000000 in
theorem cloneAt_ok (es : List At) (p : Option Addr) (c : Nat) (hn : es.length ≤ 1048576) (w0 w : World) (cs : List Plot) (hS : Sep w0 w cs) (hi : Im [] w p (es.flatMap At.cells)) :
    CallsR Tryd.prog 55 #[.slice p es.length c] w fun v w' => ∃ q cc, v = .slice q es.length cc ∧ Frm w w' ∧ Sep w0 w' (pRow 2 q es.length cc (es.flatMap At.cells) :: cs) := by
  have hS0 := hS
  replace hS := Sep.start w
  have hl1 := fm_len At.len es
  refine enter (l := [.slice p es.length c]) Tryd.func55 rfl Tryd.ntmps55 (by kernel_rfl) rfl ?_
  refine sgo ?_
  refine wl ?_ (y_slnil rfl rfl)
  cases p with
  | none =>
    have he : es = [] := by
      rcases hi with h | ⟨a, h, _⟩
      · exact List.length_eq_zero_iff.1 (by rw [h] at hl1; simp at hl1; omega)
      · cases h
    subst he
    refine sgo ?_
    (first | refine fp1 (.inl rfl) rfl rfl ?_ | refine fp2 (.inl rfl) rfl rfl rfl ?_ | refine fp3 (.inl rfl) rfl rfl rfl rfl ?_ | refine fp0 (.inr rfl) rfl ?_ | refine fp0 (.inl rfl) rfl ?_ | refine fp1 (.inr rfl) rfl rfl ?_)
    exact ⟨none, 0, rfl, Frm.refl w, hS0.push (Frm.refl w) (Row.nil w 2) (by simp [pRow, rb])⟩
  | some a =>
    rw [show (some a).isNone = false from rfl]
    refine sgo ?_
    refine sb0 hS fun b5 w5 hS => ?_
    refine sgo ?_
    refine sapp hS 0 (hi.sep hS).sg (fun q2 c2 w6 hS => ?_) (hl := by omega) (h1 := att_one es)
    rw [List.nil_append, show 0 + es.length = es.length from Nat.zero_add _] at hS
    rw [show 0 + es.length = es.length from Nat.zero_add _]
    refine sgo ?_
    (first | refine fp1 (.inl rfl) rfl rfl ?_ | refine fp2 (.inl rfl) rfl rfl rfl ?_ | refine fp3 (.inl rfl) rfl rfl rfl rfl ?_ | refine fp0 (.inr rfl) rfl ?_ | refine fp0 (.inl rfl) rfl ?_ | refine fp1 (.inr rfl) rfl rfl ?_)
    exact ⟨q2, c2, rfl, hS.frm, hS0.seq hS⟩
set_option maxHeartbeats 1000000 in
theorem evCopied_ok (e : Ev) (p : Option Addr) (c : Nat) (hs : e.small) (w0 w : World) (cs : List Plot) (hS : Sep w0 w cs) (hi : Im [] w p (e.attrs.flatMap At.cells)) :
    CallsR Tryd.prog 48 #[.agg ⟨e.cells p c⟩] w fun v w' => ∃ q cc, v = .agg ⟨e.cells q cc⟩ ∧ Frm w w' ∧ Sep w0 w' (pRow 2 q e.attrs.length cc (e.attrs.flatMap At.cells) :: cs) := by
  have hS0 := hS
  replace hS := Sep.start w
  obtain ⟨k, nm, tx, es⟩ := e
  have hes := hs.attrs
  dsimp only at hi hes
  refine enter (l := [.agg ⟨Ev.cells ⟨k, nm, tx, es⟩ p c⟩]) Tryd.func48 rfl Tryd.ntmps48 (by kernel_rfl) rfl ?_
  refine WC_seq ?_
  refine WC_region ?_
  refine sbox (v := .agg ⟨Ev.cells ⟨k, nm, tx, es⟩ p c⟩) hS fun b1 w1 hS => ?_
  replace hS : Sep w w1 [pOwn b1 [int k, str nm, str tx, .slice p es.length c]] := hS
  refine sgo ?_
  refine salloc hS fun b2 w2 hS => ?_
  refine sgo ?_
  refine wlcall (cloneAt_ok es p c hes w w2 _ hS (hi.sep hS)) ?_
  rintro _ w3 ⟨q, cc, rfl, -, hS⟩
  refine sgo ?_
  refine sst_slice hS 2 fun w4 hS => ?_
  refine sgo ?_
  refine ssta (vs := Ev.cells ⟨k, nm, tx, es⟩ q cc) hS 1 fun w5 hS => ?_
  refine sgo ?_
  refine fpc (.inl rfl) rfl rfl rfl (hS.own 1 rfl) ⟨q, cc, rfl, hS.frm, hS0.seq (ds := [_]) (hS.sub (List.Sublist.cons_cons _ (List.nil_sublist _)))⟩

def spM : EvM := ⟨⟨9, [115, 112, 111, 105, 108, 116], [], []⟩, none, 0⟩
set_option maxHeartbeats 2000000 in
theorem evSpoil_ok (ns : List EvM) (q : Option Addr) (cc : Nat) (h1 : ns.length ≤ 1048578) (hs : ∀ m ∈ ns, m.e.small) (w0 w : World) (cs : List Plot) (hS : Sep w0 w (pRow 4 q ns.length cc (ns.flatMap EvM.cells) :: pMany (ns.map EvM.row) :: cs)) :
    CallsR Tryd.prog 24 #[.slice q ns.length cc] w fun _ w' => Sep w0 w' cs := by
  refine enter (l := [.slice q ns.length cc]) Tryd.func24 rfl Tryd.ntmps24 (by kernel_rfl) rfl ?_
  refine sgo ?_
  refine wcloop (X := Nat × List RowD) (fun x => [(0, .slice q ns.length cc), (5, int ns.length), (6, int x.1)])
    (fun x wr => x.1 ≤ ns.length ∧ (x.2.length = ns.length ∧ ∀ (j : Nat) (m : EvM) (r : RowD), ns[j]? = some m → x.2[j]? = some r → r.p = m.p ∧ r.size = 2 ∧ r.n = m.e.attrs.length) ∧ Sep w0 wr (pRow 4 q ns.length cc (((ns.take x.1).map (fun _ => spM) ++ ns.drop x.1).flatMap EvM.cells) :: pMany x.2 :: cs))
    (fun x => ns.length - x.1) (0, ns.map EvM.row) ⟨rfl, rfl, rfl, trivial⟩ ⟨Nat.zero_le _, ⟨by simp, ?_⟩, by simpa using hS⟩ ?_
  · intro j m r hm hr
    simp only [List.getElem?_map, hm, Option.map_some, Option.some.injEq] at hr
    subst hr
    exact ⟨rfl, rfl, rfl⟩
  clear hS
  rintro ⟨i, rs⟩ wr ρ ⟨hil, ⟨hrl, hrs⟩, hS⟩
  dsimp only at *
  refine sgo ?_
  (show WC _ _ _ _ _ _ _; first | refine WC_dec rfl (fun hc => ?_) (fun hc => ?_) | refine WC_cond rfl (fun hc => ?_) (fun hc => ?_))
  · have hlt : i < ns.length := by omega
    have hx : ns[i]? = some ns[i] := List.getElem?_eq_getElem hlt
    have hsm := hs _ (List.getElem_mem hlt)
    have hxi : ((ns.take i).map (fun _ => spM) ++ ns.drop i)[i]? = some ns[i] := by rw [List.getElem?_append_right (by simp; omega)]; simp [hlt, Nat.min_eq_left (Nat.le_of_lt hlt)]
    have hset : ((ns.take i).map (fun _ => spM) ++ ns.drop i).set i spM = (ns.take (i + 1)).map (fun _ => spM) ++ ns.drop (i + 1) := by
      rw [List.set_append_right _ _ (by simp; omega), List.take_add_one, hx, List.map_append]
      simp only [List.length_map, List.length_take, Nat.min_eq_left (Nat.le_of_lt hlt), Nat.sub_self, Option.toList, List.map_cons, List.map_nil, List.append_assoc, List.cons_append, List.nil_append]
      rw [List.drop_eq_getElem_cons hlt]
      rfl
    have hg3 := fm_get EvM.len ((ns.take i).map (fun _ => spM) ++ ns.drop i) i 3 (by omega)
    rw [hxi] at hg3
    replace hg3 : (((ns.take i).map (fun _ => spM) ++ ns.drop i).flatMap EvM.cells)[i * 4 + 3]? = some (.slice ns[i].p ns[i].e.attrs.length ns[i].c) := hg3
    have hup := flat_upd_all (f := EvM.cells) (k := 4) EvM.len ((ns.take i).map (fun _ => spM) ++ ns.drop i) i ns[i] spM hxi
    rw [hset] at hup
    have hfl := fm_len EvM.len ((ns.take i).map (fun _ => spM) ++ ns.drop i)
    have hml : ((ns.take i).map (fun _ => spM) ++ ns.drop i).length = ns.length := by simp; omega
    rw [hml] at hfl
    have hps : ∃ a, q = some a := (hS.row 0 rfl).sg.some (by rw [hfl]; omega)
    have hri : rs[i]? = some rs[i] := List.getElem?_eq_getElem (by omega)
    obtain ⟨e1, e2, e3⟩ := hrs i _ _ hx hri
    have hes := hsm.attrs
    generalize ns[i] = m at *
    generalize ((ns.take i).map (fun _ => spM) ++ ns.drop i).flatMap EvM.cells = F at *
    generalize hr0 : rs[i] = r0 at *
    clear hc hxi hr0
    obtain ⟨rz, rp, rn, rc, rx⟩ := r0
    dsimp only at e1 e2 e3
    subst e1 e2 e3
    refine sgo ?_
    refine wcloop (X := Nat × List Value) (fun x => [(0, .slice q ns.length cc), (2, int i), (5, int ns.length), (6, int i), (14, int m.e.attrs.length), (15, int x.1)])
      (fun x wr => x.1 ≤ m.e.attrs.length ∧ Sep w0 wr (pRow 4 q ns.length cc F :: pMany (rs.set i ⟨2, m.p, m.e.attrs.length, rc, x.2⟩) :: cs)) (fun x => m.e.attrs.length - x.1) (0, rx) ⟨rfl, rfl, rfl, rfl, rfl, rfl, trivial⟩ ⟨Nat.zero_le _, ?_⟩ ?_
    · have e : rs.set i ⟨2, m.p, m.e.attrs.length, rc, rx⟩ = rs := by
        obtain ⟨h, hh⟩ := List.getElem?_eq_some_iff.1 hri
        rw [← hh, List.set_getElem_self]
      dsimp only
      rw [e]; exact hS
    clear hS
    rintro ⟨k, ys⟩ wr2 ρ2 ⟨hk, hS⟩
    dsimp only at *
    refine sgo ?_
    (show WC _ _ _ _ _ _ _; first | refine WC_dec rfl (fun hc => ?_) (fun hc => ?_) | refine WC_cond rfl (fun hc => ?_) (fun hc => ?_))
    · have hkl : k < m.e.attrs.length := by omega
      clear hc
      have hj : (rs.set i ⟨2, m.p, m.e.attrs.length, rc, ys⟩)[i]? = some ⟨2, m.p, m.e.attrs.length, rc, ys⟩ := by rw [List.getElem?_set_self (by omega)]
      have hrow := hS.many 1 rfl _ (List.mem_of_getElem? hj)
      have hrl2 : ys.length = m.e.attrs.length * 2 := Row.len hrow
      have hmp : ∃ a, m.p = some a := (Row.sg hrow).some (by dsimp only; omega)
      refine sgo ?_
      refine wlbuild ?_
      refine sgo ?_
      refine smst (v := .agg ⟨[str [115, 112, 111, 105, 108, 116], str []]⟩) (k := k * 2) hS 1 hj (fun w3 hS => ?_) (hk := by dsimp only; omega)
      refine sgo ?_
      refine ⟨(k + 1, ys.take (k * 2) ++ [str [115, 112, 111, 105, 108, 116], str []] ++ ys.drop (k * 2 + 2)), ⟨rfl, rfl, rfl, rfl, rfl, rfl, trivial⟩, ⟨hkl, ?_⟩, (by (try dsimp only); omega)⟩
      have hS2 := hS
      simp only [List.set_set, List.set_cons_succ, List.set_cons_zero] at hS2
      exact hS2
    · clear hc
      refine sgo ?_
      refine wlbuild ?_
      refine sgo ?_
      refine srst (v := .agg ⟨spM.cells⟩) (j := i * 4) hS 0 (fun w3 hS => ?_) (hk := by omega)
      refine sgo ?_
      refine ⟨(i + 1, rs.set i ⟨2, m.p, m.e.attrs.length, rc, ys⟩), ⟨rfl, rfl, rfl, trivial⟩, ⟨hlt, ⟨by simp [hrl], ?_⟩, ?_⟩, (by (try dsimp only); omega)⟩
      · intro j m' r' hm' hr'
        by_cases hji : j = i
        · subst hji
          rw [List.getElem?_set_self (by omega)] at hr'
          injection hr' with hr'
          rw [hx] at hm'
          injection hm' with hm'
          subst hr' hm'
          exact ⟨rfl, rfl, rfl⟩
        · rw [List.getElem?_set_ne (fun h => hji h.symm)] at hr'
          exact hrs j m' r' hm' hr'
      · rw [← hup]; exact hS
  · refine sgo ?_
    (first | refine fp1 (.inl rfl) rfl rfl ?_ | refine fp2 (.inl rfl) rfl rfl rfl ?_ | refine fp3 (.inl rfl) rfl rfl rfl rfl ?_ | refine fp0 (.inr rfl) rfl ?_ | refine fp0 (.inl rfl) rfl ?_ | refine fp1 (.inr rfl) rfl rfl ?_)
    exact hS.tail.tail
end Go.Proofs.YthgbpgjpnaanlaaDoor

/-
  Package event: Wrap.
-/
set_option linter.unusedSimpArgs false
set_option linter.unusedVariables false
set_option linter.unnecessarySimpa false
namespace Go.Proofs.YthgbpgjpnaanlaaDoor
open Go Go.Sv Go.RowKit

def firstE (n : List UInt8) (es : List At) : Ev := ⟨1, n, [], es⟩
def wrapC (f : Ev) (k : Lk) : Int := if evR f = false then 180 else if k.err ≠ 0 then k.err else if k.stack = [] then 0 else 181
def wrapE (n : List UInt8) (es : List At) (l : List Ev) : List Ev := if wrapC (firstE n es) (lkR l) = 0 then firstE n es :: l ++ [closeE n] else []
end Go.Proofs.YthgbpgjpnaanlaaDoor

