/-
  Our texts SvIter, SvRunes, SvRunesB, SvMendC, SvPl1, SvLkA, SvLkB, SvLkC, SvLkD, SvLkE, SvNe, SvEvA, SvLn, SvIn, SvInL, SvInN, SvEvC, SvEvN, SvEvW, SvEvX, SvFd, SvRf, SvEvY, SvEq, SvTabE, SvEvE, SvEvO, SvEvP, SvGen, SvEvU, SvEvV, SvVal, SvFe, SvTabF, SvKp, SvTre, SvDa, SvTokJ, SvDc, SvDd, joined.
-/
import Derived.Test.YtcdogceabkpnmaaDoorMg3
import Derived.Laws.Cover4
import Derived.Laws.MakeOwn
import Derived.Lib.LaidTab
import Derived.Laws.StructEq
import Derived.Test.YtcdogceabkpnmaaDoorRows
/-
  Loops over functions; calls of function values.
-/
set_option linter.unusedSimpArgs false
set_option linter.unusedVariables false
set_option linter.unnecessarySimpa false
namespace Go.Sv
open Go Go.RowKit

/-- a loop's record -/
def LoopAt (w : World) (l : Nat) (r : Loop) : Prop := w.heap[l]? = some (.loop r)
theorem LoopAt.lt {w : World} {l : Nat} {r : Loop} (h : LoopAt w l r) : l < w.heap.size := (Array.getElem?_eq_some_iff.1 h).1
theorem LoopAt.le {w w' : World} {M : List Nat} {l : Nat} {r : Loop} (h : LoopAt w l r) (hl : Le M w w') (hm : l ∉ M) : LoopAt w' l r := (hl.block l h.lt hm).trans h
theorem LoopAt.frm {w w' : World} {l : Nat} {r : Loop} (h : LoopAt w l r) (hl : Frm w w') : LoopAt w' l r := h.le (M := []) hl.le (by simp)
/-- the block of a loop's deferred calls: there are none -/
def NoDef (w : World) (D : Nat) : Prop := w.heap[D]? = some (.deferred (some []))
theorem NoDef.lt {w : World} {D : Nat} (h : NoDef w D) : D < w.heap.size := (Array.getElem?_eq_some_iff.1 h).1
theorem NoDef.le {w w' : World} {M : List Nat} {D : Nat} (h : NoDef w D) (hl : Le M w w') (hm : D ∉ M) : NoDef w' D := (hl.block D h.lt hm).trans h
theorem NoDef.frm {w w' : World} {D : Nat} (h : NoDef w D) (hl : Frm w w') : NoDef w' D := h.le (M := []) hl.le (by simp)
theorem le_putObj (w : World) (l : Nat) (o : Obj) : Le [l] w (w.putObj l o) := ⟨rfl, rfl, rfl, by simp, fun k _ hk => World.putObj_heap_other (by simpa using hk)⟩

/-- yield, called with 'args': it answers a bool, and R holds then -/
def Yld (P : Program) (l : Nat) (args : List Value) (w : World) (R : Bool → World → Prop) : Prop :=
  ∃ r, LoopAt w l r ∧ args.toArray.size = r.params.size ∧ RoundIn Fence.wide 0 P l r.fn ((r.params.zip args.toArray).foldl (fun tmps (t, a) => tmps.setIfInBounds t a) r.tmps) r.assign r.body w fun e w' => ∃ b, e = .returned (.bool b) ∧ R b w'
theorem Yld.mono {P : Program} {l : Nat} {args : List Value} {w : World} {R R' : Bool → World → Prop} (h : Yld P l args w R) (hr : ∀ b w', R b w' → R' b w') : Yld P l args w R' := by
  obtain ⟨r, h1, h2, h3⟩ := h
  exact ⟨r, h1, h2, h3.mono fun _ _ ⟨b, he, hb⟩ => ⟨b, he, hr _ _ hb⟩⟩

theorem roundIn_fen {ro : Option Nat} {m n : Nat} {P : Program} {l : Nat} {f : FuncId} {tmps : Array Value} {assign body : Code} {w : World} {R : Ending → World → Prop} (h : RoundIn Fence.wide m P l f tmps assign body w R) : RoundIn (fen ro) n P l f tmps assign body w R := by
  refine ⟨fen_fn ro f, fun c cs _ => ?_⟩
  obtain ⟨e, w', hR, hs⟩ := h.2 c cs (room_wide _)
  cases ro <;> exact ⟨e, w', hR, hs⟩

section
variable {P : Program} {n : Nat} {ds : Ctx} {ops : Array Oper} {Q : Exit → Ctx → Env → World → Prop} {rest : List Oper} {σ : GE} {w : World} {v : Value} {d : Nat} {ty : TypeId} {pos : String} {af : Array Edge} {l : Nat} {xs : List Operand} {ats : Array TypeId} {x : Operand}
theorem run_call_yield {σ : Env} {dd : Option Tmp} {g : Option (Nat × Bool)} {r : Loop} {args : List Value} (hx : evl σ x = .func (.yield l) #[] #[]) (ha : xs.map (evl σ) = args) (hl : LoopAt w l r) (hs : args.toArray.size = r.params.size) :
    (execOp (evl σ) ⟨dd, .call ⟨.value x, xs.toArray, ats⟩, ty, pos, af, g⟩).run P w = .ok (.round l r.fn ((r.params.zip args.toArray).foldl (fun tmps (t, a) => tmps.setIfInBounds t a) r.tmps) r.assign r.body) w := by
  subst ha
  simp only [execOp, resolve, hx, Deferred.ofValue]
  simp only [Sem.run_bind, Sem.run_pure, Result.andThen_ok, invoke]
  have := run_yield (P := P) hl hs
  simpa using this
/-- a call of yield -/
theorem wlyield {args : List Value} {R : Bool → World → Prop} (hy : Yld P l args w R) (h : ∀ b w', R b w' → WL P n ds ops Q rest (real (updG σ d ⟨.bool b, true⟩)) w')
    (hx : evl (real σ) x = .func (.yield l) #[] #[] := by rfl) (ha : xs.map (evl (real σ)) = args := by first | rfl | exact am1 rfl | exact am2 rfl rfl) :
    WL P n ds ops Q (⟨some d, .call ⟨.value x, xs.toArray, ats⟩, ty, pos, af, none⟩ :: rest) (real σ) w := by
  obtain ⟨r, h1, h2, h3⟩ := hy
  refine WL_upon (by simp [Region.wanted]) fun hin K hK _ => ?_
  have hd := operIn_dst hin
  rw [run_call_yield hx ha h1 h2, Oper.uponIn_round]
  refine ⟨fun hx => (by rw [fen_depth] at hx; cases hx), roundIn_fen (m := 0) (h3.mono ?_)⟩
  rintro e w' ⟨b, rfl, hb⟩
  show K _ _
  rw [act_put hd]
  have := h b w' hb
  rw [← real_upd] at this
  exact hK _ _ this
end

/-! ## the statement -/
/-- what a round leaves of the record -/
def rndP (rec : LoopState → Option Code → Loop) (l : Nat) (R : Bool → World → Prop) : Exit → Ctx → Env → World → Prop
  | .normal, _, _, w => LoopAt w l (rec .busy none) ∧ ∀ w', Le [l] w w' → LoopAt w' l (rec .ready none) → R true w'
  | .ret, _, _, w => LoopAt w l (rec .busy none) ∧ ∀ w', Le [l] w w' → LoopAt w' l (rec .done (some .ret)) → R false w'
  | .exit id, _, _, w => LoopAt w l (rec .busy none) ∧ ∀ w', Le [l] w w' → LoopAt w' l (rec .done (some (.exit id))) → R false w'
  | _, _, _, _ => False
/-- what follows the loop, by what a round left it for -/
def aftP (P : Program) (Q : Exit → Ctx → Env → World → Prop) (c : Ctx) (σ : Env) (w : World) : Option Code → Prop
  | none => Q .normal c σ w
  | some .ret => Q .ret c σ w
  | some (.exit id) => Q (.exit id) c σ w
  | some _ => False
section
variable {P : Program} {n : Nat} {ds : Ctx} {Q : Exit → Ctx → Env → World → Prop} {σ : GE} {w : World} {l D : Nat} {assign body : Code} {ps : List Tmp}
/-- the frame's slots with yield's arguments -/
def updZ (σ : Env) : List Tmp → List Value → Env
  | p :: ps, v :: vs => updZ (upd σ p v) ps vs
  | _, _ => σ
theorem zip_put (dd : List Deferred) : ∀ (ps : List Tmp) (vs : List Value) (σ : Env), ps.all (fun t => Nat.blt t n) = true →
    (ps.toArray.zip vs.toArray).foldl (fun tmps (t, a) => tmps.setIfInBounds t a) (act n dd σ).tmps = (act n dd (updZ σ ps vs)).tmps := by
  intro ps vs σ h
  rw [← Array.foldl_toList]
  have e : (ps.toArray.zip vs.toArray).toList = ps.zip vs := by simp
  rw [e]
  clear e
  induction ps generalizing vs σ with
  | nil => simp [updZ]
  | cons p ps ih =>
    cases vs with
    | nil => simp [updZ]
    | cons v vs =>
      simp only [List.all_cons, Bool.and_eq_true] at h
      simp only [List.zip_cons_cons, List.foldl_cons, updZ]
      have := act_put (ds := dd) (σ := σ) (d := some p) (v := v) (n := n) h.1
      have e2 : (act n dd σ).tmps.setIfInBounds p v = (act n dd (upd σ p v)).tmps := congrArg Act.tmps this
      rw [e2]
      exact ih vs (upd σ p v) h.2
def updZG (σ : GE) : List Tmp → List Value → GE
  | p :: ps, v :: vs => updZG (updG σ p ⟨v, true⟩) ps vs
  | _, _ => σ
theorem updZ_real : ∀ (ps : List Tmp) (vs : List Value) (σ : GE), updZ (real σ) ps vs = real (updZG σ ps vs)
  | [], _, σ => by simp [updZ, updZG]
  | _ :: _, [], σ => by simp [updZ, updZG]
  | p :: ps, v :: vs, σ => by
    simp only [updZ, updZG]
    rw [show upd (real σ) p v = real (updG σ p ⟨v, true⟩) from real_upd σ p ⟨v, true⟩]
    exact updZ_real ps vs _

/-- what the record of a loop is, but for how it stands -/
def recOf (P : Program) (n : Nat) (fn : FuncId) (dd : List Deferred) (σ : GE) (ps : List Tmp) (assign body : Code) (D : Nat) (st : LoopState) (pe : Option Code) : Loop :=
  { state := st, pending := pe, fn, tmps := (act n dd (real σ)).tmps, params := ps.toArray, assign, body, defers := D }
/-- a round, out of its code -/
theorem yld_of {fn : FuncId} {dd : List Deferred} {args : List Value} {R : Bool → World → Prop} (hl : LoopAt w l (recOf P n fn dd σ ps assign body D .ready none)) (hlen : args.length = ps.length) (hin : (ps.all (fun t => Nat.blt t n) && codeIn n true assign && codeIn n true body) = true)
    (h : WC P n ⟨[], some l⟩ assign (fun e c σ' w1 => match e with | .normal => LoopAt w1 l (recOf P n fn dd σ ps assign body D .ready none) ∧ ∀ w2, Le [l] w1 w2 → LoopAt w2 l (recOf P n fn dd σ ps assign body D .busy none) → WC P n c body (rndP (recOf P n fn dd σ ps assign body D) l R) σ' w2 | _ => False) (real (updZG σ ps args)) w) :
    Yld P l args w R := by
  simp only [Bool.and_eq_true] at hin
  obtain ⟨⟨hin1, hin2⟩, hin3⟩ := hin
  refine ⟨_, hl, by simpa [recOf] using hlen, ?_⟩
  have ez := zip_put (n := n) dd ps args (real σ) hin1
  have e0 : (recOf P n fn dd σ ps assign body D .ready none).params = ps.toArray := rfl
  have e1 : (recOf P n fn dd σ ps assign body D .ready none).tmps = (act n dd (real σ)).tmps := rfl
  rw [e0, e1, ez, updZ_real]
  refine roundIn_of_wpIn (F := Fence.wide) (n := 0) trivial ?_
  unfold WC at h
  refine wpIn_mono (h hin2) ?_
  rintro e a1 w1 ⟨d1, σ1, rfl, hq⟩
  cases e <;> try exact hq.elim
  obtain ⟨hl1, hb⟩ := hq
  refine ⟨_, run_beginRound hl1 rfl, ?_⟩
  have hb2 := hb _ (le_putObj w1 l _) (World.putObj_heap_same hl1.lt)
  unfold WC at hb2
  refine wpIn_mono (hb2 hin3) ?_
  rintro e a2 w3 ⟨d2, σ2, rfl, hq⟩
  cases e with
  | normal => exact ⟨_, _, run_endRound none hq.1, _, rfl, hq.2 _ (le_putObj _ _ _) (World.putObj_heap_same hq.1.lt)⟩
  | ret => exact ⟨_, _, run_endRound (some .ret) hq.1, _, rfl, hq.2 _ (le_putObj _ _ _) (World.putObj_heap_same hq.1.lt)⟩
  | exit id => exact ⟨_, _, run_endRound (some (.exit id)) hq.1, _, rfl, hq.2 _ (le_putObj _ _ _) (World.putObj_heap_same hq.1.lt)⟩
  | goto t => exact hq.elim
  | panic ch => exact hq.elim
  | outgrown => exact hq.elim

/-- a loop over a function: an outermost one -/
theorem wcrangef {g : Operand} {gf : FuncId} [hf : Fnc P gf] {cap : List Value} (hg : evl (real σ) g = .func (.func gf) #[] ⟨cap⟩) (hro : ds.ro = none)
    (hcall : ∀ fn l D w1, w.heap.size ≤ D → w.heap.size ≤ l → l ≠ D → Frm w w1 → LoopAt w1 l (recOf P n fn ds.ds σ ps assign body D .ready none) → NoDef w1 D →
      CallsR P gf ((.func (.yield l) #[] #[]) :: cap).toArray w1 fun _ w2 => ∃ st pe, st ≠ .busy ∧ LoopAt w2 l (recOf P n fn ds.ds σ ps assign body D st pe) ∧
        ∀ w3, Le [l] w2 w3 → aftP P Q ⟨{ target := .collected D, args := #[] } :: ds.ds, none⟩ (real σ) w3 pe) :
    WC P n ds (.rangeFunc g ps.toArray assign body) Q (real σ) w := by
  obtain ⟨dd, ro⟩ := ds
  dsimp only at hro hcall
  subst hro
  unfold WC
  intro hin
  simp only [codeIn, Bool.and_eq_true] at hin
  have hgin := hin.1.1.1
  refine wpIn_rangeFunc ?_
  intro fn _
  let w1 := (w.alloc (.deferred (some []))).alloc (.loop (recOf P n fn dd σ ps assign body w.heap.size .ready none))
  have hL : LoopAt w1 (w.heap.size + 1) (recOf P n fn dd σ ps assign body w.heap.size .ready none) := by
    have := World.alloc_heap_new (w.alloc (.deferred (some []))) (.loop (recOf P n fn dd σ ps assign body w.heap.size .ready none))
    rw [World.size_alloc] at this
    exact this
  have hF : Frm w w1 := (frm_alloc w _).trans (frm_alloc _ _)
  have hD : NoDef w1 w.heap.size := by
    have h0 := World.alloc_heap_new w (.deferred (some []))
    exact (Below.heap_alloc (w.alloc (.deferred (some []))) _ w.heap.size (by simp)).trans h0
  have hc := hcall fn (w.heap.size + 1) w.heap.size w1 (Nat.le_refl _) (by omega) (by omega) hF hL hD
  refine ⟨w.heap.size + 1, [{ target := .collected w.heap.size, args := #[] }], w1, { target := .fn (.func gf) ⟨cap⟩, args := #[.func (.yield (w.heap.size + 1)) #[] #[]] }, w1, gf, ((.func (.yield (w.heap.size + 1)) #[] #[]) :: cap).toArray, w1, ?_, ?_, ?_, ?_, ?_, ?_⟩
  · exact run_enterLoop_outer fn _ _ _ _
  · have : (act n dd (real σ)).eval g = .func (.func gf) #[] ⟨cap⟩ := by rw [act_eval hgin, hg]
    simp only [resolve, this, Deferred.ofValue]
    simp [Act.eval]
  · intro f' _; trivial
  · have := run_callFunc (P := P) (f := gf) ((.func (.yield (w.heap.size + 1)) #[] #[]) :: cap).toArray w1
    simpa [invoke] using this
  · intro h; simp [fen, Fence.wide] at h
  · refine callsIn_wide.2 (Calls.mono hc ?_)
    rintro e w2 ⟨v, rfl, st, pe, hst, hl2, hq⟩
    refine ⟨pe, _, run_endLoop hl2 hst, ?_⟩
    have hq2 := hq _ (le_putObj w2 (w.heap.size + 1) (.loop { (recOf P n fn dd σ ps assign body w.heap.size st pe) with state := .exhausted }))
    cases pe with
    | none => exact ⟨_, _, rfl, hq2⟩
    | some c =>
      cases c <;> try exact hq2.elim
      · exact wpIn_exit ⟨_, _, rfl, hq2⟩
      · exact wpIn_ret ⟨_, _, rfl, hq2⟩
end
section
variable {P : Program} {Q : Exit → Ctx → Env → World → Prop} {c : Ctx} {σ : Env} {w : World} {rec : LoopState → Option Code → Loop} {l : Nat} {R : Bool → World → Prop} {i : Nat}
theorem rnd_normal (hl : LoopAt w l (rec .busy none)) (h : ∀ w', Le [l] w w' → LoopAt w' l (rec .ready none) → R true w') : rndP rec l R .normal c σ w := ⟨hl, h⟩
theorem rnd_exit (hl : LoopAt w l (rec .busy none)) (h : ∀ w', Le [l] w w' → LoopAt w' l (rec .done (some (.exit i))) → R false w') : rndP rec l R (.exit i) c σ w := ⟨hl, h⟩
theorem aft_none (h : Q .normal c σ w) : aftP P Q c σ w none := h
theorem aft_exit (h : Q (.exit i) c σ w) : aftP P Q c σ w (some (.exit i)) := h
end
attribute [irreducible] rndP aftP
end Go.Sv

/-
  Package utf: All, Runes.
-/
set_option linter.unusedSimpArgs false
set_option linter.unusedVariables false
set_option linter.unnecessarySimpa false
namespace Go.Proofs.YtcdogceabkpnmaaDoor
open Go Go.Sv Go.RowKit









































































end Go.Proofs.YtcdogceabkpnmaaDoor

/-
  Package utf: Runes, Mend.
-/
set_option linter.unusedSimpArgs false
set_option linter.unusedVariables false
set_option linter.unnecessarySimpa false
namespace Go.Proofs.YtcdogceabkpnmaaDoor
open Go Go.Sv Go.RowKit

theorem Im.only {w : World} {p : Option Addr} {l : List Value} {M : List Nat} (h : Im [] w p l) (hM : ∀ b ∈ rb p, b < w.heap.size → b ∉ M) : Im M w p l := by
  rcases h with h | ⟨a, rfl, h1, h2, _⟩
  · exact .inl h
  · exact .inr ⟨a, rfl, h1, h2, hM _ (by simp [rb]) h2⟩


















































































































end Go.Proofs.YtcdogceabkpnmaaDoor

/-
  Package utf: Mend.
-/
set_option linter.unusedSimpArgs false
set_option linter.unusedVariables false
set_option linter.unnecessarySimpa false
namespace Go.Proofs.YtcdogceabkpnmaaDoor
open Go Go.Sv Go.RowKit

section
variable {P : Program} {w : World} {ty t t' e : TypeId} {pos : String} {af : Array Edge} {x : Operand} {p : Option Addr} {c : Nat}
end
section
variable {P : Program} {n : Nat} {ds : Ctx} {ops : Array Oper} {Q : Exit → Ctx → Env → World → Prop} {rest : List Oper} {σ : GE} {w : World} {d : Nat} {ty t t' e : TypeId} {pos : String} {af : Array Edge} {x : Operand}
end
































































end Go.Proofs.YtcdogceabkpnmaaDoor

/-
  Runes as bytes, read again.
-/
set_option linter.unusedSimpArgs false
set_option linter.unusedVariables false
set_option linter.unnecessarySimpa false
namespace Go.Proofs.YtcdogceabkpnmaaDoor
open Go Go.Sv Go.RowKit

end Go.Proofs.YtcdogceabkpnmaaDoor

/-
  Package link: schemes; what is stripped.
-/
set_option linter.unusedSimpArgs false
set_option linter.unusedVariables false
set_option linter.unnecessarySimpa false
namespace Go.Sv
open Go Go.RowKit
section
variable {P : Program} {n : Nat} {ds : Ctx} {ops : Array Oper} {Q : Exit → Ctx → Env → World → Prop} {rest : List Oper} {σ : GE} {w : World} {d : Nat} {ty t e : TypeId} {pos : String} {af : Array Edge} {x y : Operand} {zv : Value} {size bytes c : Nat} {kl kc : IntKind}
end
end Go.Sv
namespace Go.Proofs.YtcdogceabkpnmaaDoor
open Go Go.Sv Go.RowKit

def schB (c : Nat) : Bool := letterR c || digitR c || decide (c = 43 ∨ c = 45 ∨ c = 46)













/-- a scheme's end, behind its first byte -/
def schF : List UInt8 → Nat → Nat × Bool
  | [], _ => (0, false)
  | c :: t, i => if c.toNat = 58 then (i, true) else if schB c.toNat then schF t (i + 1) else (0, false)
def schemeR (l : List UInt8) : Nat × Bool := if l = [] ∨ letterR (at0 l 0) = false then (0, false) else schF (l.drop 1) 1
/-- what is left of runes behind leading blanks and controls -/
def cutL (rs : List Nat) : List Nat := rs.dropWhile fun r => decide (r ≤ 32)
def cutT (rs : List Nat) : List Nat := (cutL rs.reverse).reverse
def keepN (rs : List Nat) : List Nat := rs.filter fun r => decide (r ≠ 9 ∧ r ≠ 10 ∧ r ≠ 13)
def stripN (rs : List Nat) : List Nat := keepN (cutT (cutL rs))
def stripR (l : List UInt8) : List UInt8 := (stripN (runesN l)).flatMap encR
end Go.Proofs.YtcdogceabkpnmaaDoor

/-
  Package link: Scheme, percent escapes.
-/
set_option linter.unusedSimpArgs false
set_option linter.unusedVariables false
set_option linter.unnecessarySimpa false
namespace Go.Sv
open Go Go.RowKit
end Go.Sv
namespace Go.Proofs.YtcdogceabkpnmaaDoor
open Go Go.Sv Go.RowKit

/-- two hexadecimal digits ahead? -/
def codedR (l : List UInt8) (i : Nat) : Bool := decide (i + 2 < l.length) && hexR (at0 l (i + 1)) && hexR (at0 l (i + 2))































def codedS (t : List UInt8) : Bool := decide (1 < t.length) && hexR (at0 t 0) && hexR (at0 t 1)
def badB : List UInt8 := [34, 60, 62, 92, 94, 96, 123, 124, 125]
def escB (c : Nat) (coded : Bool) : Bool := decide (c ≤ 32) || decide (127 ≤ c) || decide (UInt8.ofNat c ∈ badB) || (decide (c = 37) && !coded)
def digs : List UInt8 := [48, 49, 50, 51, 52, 53, 54, 55, 56, 57, 65, 66, 67, 68, 69, 70]
def pct (c : Nat) : List UInt8 := [37, digs[c / 16]?.getD 0, digs[c % 16]?.getD 0]
def encC (c : Nat) (coded : Bool) : List UInt8 := if escB c coded then pct c else [UInt8.ofNat c]
def encL : List UInt8 → List UInt8
  | [] => []
  | c :: t => encC c.toNat (codedS t) ++ encL t
def encodeR (s : List UInt8) : List UInt8 := encL (mendR s)
end Go.Proofs.YtcdogceabkpnmaaDoor

/-
  Package link: without percent escapes.
-/
set_option linter.unusedSimpArgs false
set_option linter.unusedVariables false
set_option linter.unnecessarySimpa false
namespace Go.Sv
open Go Go.RowKit
section
variable {P : Program} {σ : GE} {w0 : World} {d : Nat} {ty t e : TypeId} {pos : String} {af : Array Edge} {x : Operand} {zv v : Value} {bytes : Nat} {kk : IntKind} {a : Int} {K : Env → World → Prop}
end
end Go.Sv
namespace Go.Proofs.YtcdogceabkpnmaaDoor
open Go Go.Sv Go.RowKit

def valN (c : Nat) : Nat := (valueR c).toNat
def decL : List UInt8 → List UInt8
  | [] => []
  | c :: t => if c = 37 ∧ codedS t = true then UInt8.ofNat (16 * valN (at0 t 0) + valN (at0 t 1)) :: decL (t.drop 2) else c :: decL t
termination_by l => l.length
decreasing_by
  · simp; omega
  · simp
def decodeR (s : List UInt8) : List UInt8 := mendR (decL (mendR s))
end Go.Proofs.YtcdogceabkpnmaaDoor

/-
  Package sieveref12: Encode, Decode.
-/
set_option linter.unusedSimpArgs false
set_option linter.unusedVariables false
set_option linter.unnecessarySimpa false
namespace Go.Sv
open Go Go.RowKit
section
variable {P : Program} {n : Nat} {ds : Ctx} {ops : Array Oper} {Q : Exit → Ctx → Env → World → Prop} {rest : List Oper} {σ : GE} {w : World} {d : Nat} {ty t t' e : TypeId} {pos : String} {af : Array Edge} {x : Operand} {zv : Value} {bytes : Nat}
def enum (vs : List Value) (j : Nat) : List (Nat × Value) := (vs.zipIdx j).map fun p => (p.2, p.1)
end
end Go.Sv
namespace Go.Proofs.YtcdogceabkpnmaaDoor
open Go Go.Sv Go.RowKit

end Go.Proofs.YtcdogceabkpnmaaDoor

/-
  Package link: paths without dot segments; the twins.
-/
set_option linter.unusedSimpArgs false
set_option linter.unusedVariables false
set_option linter.unnecessarySimpa false
namespace Go.Sv
open Go Go.RowKit
section
variable {P : Program} {σ : Env} {w : World} {d : Option Tmp} {ty t t' : TypeId} {pos : String} {af : Array Edge} {g : Option (Nat × Bool)} {x y : Operand} {a b : Int} {ats : Array TypeId}
theorem y_max (hx : evl σ x = int a) (hy : evl σ y = int b) : Y P σ ⟨d, .call ⟨.builtin .max, #[x, y], ats⟩, ty, pos, af, g⟩ w (int (max a b)) w := by
  refine Y.val ?_; simp only [execOp, resolve, Sem.run_bind, Sem.run_pure, Result.andThen_ok, invoke, builtin]
  have e : (if b > a then b else a) = max a b := by omega
  simp [hx, hy, Builtin.max_, Builtin.max2, e]
end
end Go.Sv
namespace Go.Proofs.YtcdogceabkpnmaaDoor
open Go Go.Sv Go.RowKit

/-- how many bytes stand ahead of the first of some -/
def upR (l sm : List UInt8) : Nat := (l.takeWhile fun c => decide (c ∉ sm)).length
/-- the last place below n where c stands -/
def lastF (l : List UInt8) (c : Nat) : Nat → Int
  | 0 => -1
  | n + 1 => if at0 l n = c then n else lastF l c n
def lastR (l : List UInt8) (c : Nat) : Int := lastF l c l.length
def parR (l : List UInt8) : List UInt8 := l.take (max (lastR l 47) 0).toNat













def pfx (p l : List UInt8) : Bool := p.isPrefixOf l
/-- a segment's end -/
def segN (l : List UInt8) : Nat := 1 + upR (l.drop 1) [47]
def dotStep (l out : List UInt8) : List UInt8 × List UInt8 :=
  if pfx [46, 46, 47] l then (l.drop 3, out)
  else if pfx [46, 47] l then (l.drop 2, out)
  else if pfx [47, 46, 47] l then (l.drop 2, out)
  else if l = [47, 46] then ([47], out)
  else if pfx [47, 46, 46, 47] l then (l.drop 3, parR out)
  else if l = [47, 46, 46] then ([47], parR out)
  else if l = [46] ∨ l = [46, 46] then ([], out)
  else (l.drop (segN l), out ++ l.take (segN l))
def dotsF : Nat → List UInt8 → List UInt8 → List UInt8
  | 0, _, out => out
  | f + 1, l, out => if l = [] then out else dotsF f (dotStep l out).1 (dotStep l out).2
def dotsL (l out : List UInt8) : List UInt8 := dotsF l.length l out
end Go.Proofs.YtcdogceabkpnmaaDoor

/-
  sievelaw18: depth of trees.
-/
set_option linter.unusedSimpArgs false
set_option linter.unusedVariables false
set_option linter.unnecessarySimpa false
namespace Go.Proofs.YtcdogceabkpnmaaDoor
open Go Go.Sv Go.RowKit

/-- how deep elements stand in each other -/
def Fo.depth : Fo → Nat
  | .nil => 0
  | .cons n _ _ ks r => max (if n = [] then 0 else 1 + ks.depth) r.depth
def ndDepth (m : NdM) : Nat := if m.name = [] then 0 else 1 + m.kids.fo.depth
def depthL (l : List NdM) : Nat := l.foldl (fun d m => max d (ndDepth m)) 0
theorem depth_wt (f : FoM) : f.fo.depth ≤ f.wt := by
  induction f with
  | nil => exact Nat.le_refl _
  | cons n t es ap ac ks kp kc r ih1 ih2 =>
    simp only [FoM.fo, Fo.depth, FoM.wt]
    split <;> omega
end Go.Proofs.YtcdogceabkpnmaaDoor

/-
  Events: what they are, which may be, how they lie in memory.
-/
set_option linter.unusedSimpArgs false
set_option linter.unusedVariables false
set_option linter.unnecessarySimpa false
namespace Go.Proofs.YtcdogceabkpnmaaDoor
open Go Go.Sv Go.RowKit

structure Ev where
  kind : Int
  name : List UInt8
  text : List UInt8
  attrs : List At
  deriving DecidableEq
def Ev.cells (e : Ev) (p : Option Addr) (c : Nat) : List Value := [int e.kind, str e.name, str e.text, .slice p e.attrs.length c]
structure EvM where
  e : Ev
  p : Option Addr
  c : Nat
def EvM.cells (m : EvM) : List Value := m.e.cells m.p m.c
theorem EvM.len (m : EvM) : m.cells.length = 4 := rfl
theorem ev_one (e : Ev) (p : Option Addr) (c : Nat) : ∀ u ∈ e.cells p c, u.oneCell' = true := by simp [Ev.cells, Value.oneCell']
structure Ev.small (t : Ev) : Prop where
  name : t.name.length ≤ 1048576
  text : t.text.length ≤ 1048576
  attrs : t.attrs.length ≤ 1048576
  each : ∀ x ∈ t.attrs, x.small
def Ev.wt (t : Ev) : Nat := 4 + t.name.length + t.text.length + (t.attrs.map At.wt).sum
def evw (ms : List EvM) : Nat := (ms.map fun m => m.e.wt).sum
/-- a list of events that can be read -/
structure Evs (w : World) (p : Option Addr) (ms : List EvM) : Prop where
  im : Im [] w p (ms.flatMap EvM.cells)
  each : ∀ m ∈ ms, Im [] w m.p (m.e.attrs.flatMap At.cells)
theorem Evs.frm {w w' : World} {p : Option Addr} {ms : List EvM} (h : Evs w p ms) (hf : Frm w w') : Evs w' p ms := ⟨h.im.frm hf, fun m hm => (h.each m hm).frm hf⟩
/-- where an event's attributes lie, as a row -/
def EvM.row (m : EvM) : RowD := ⟨2, m.p, m.e.attrs.length, m.c, m.e.attrs.flatMap At.cells⟩
/-- a list of events in memory of one's own -/
def evP (q : Option Addr) (c : Nat) (ms : List EvM) : List Plot := [pRow 4 q ms.length c (ms.flatMap EvM.cells), pMany (ms.map EvM.row)]
theorem Sep.evs {w0 w : World} {cs : List Plot} {q : Option Addr} {n c : Nat} {ms : List EvM} (h : Sep w0 w cs) (i j : Nat) (hi : cs[i]? = some (pRow 4 q n c (ms.flatMap EvM.cells))) (hj : cs[j]? = some (pMany (ms.map EvM.row))) : Evs w q ms :=
  ⟨h.im i hi, fun m hm => RowD.im (h.many j hj m.row (List.mem_map_of_mem hm))⟩
def EvM.es (ms : List EvM) : List Ev := ms.map EvM.e

/-- the token that opens it -/
def Ev.start (e : Ev) : Tok := ⟨1, e.name, [], e.attrs, false, 0, 0, 0⟩
def Ev.close (e : Ev) : Tok := ⟨2, e.name, [], [], false, 0, 0, 0⟩
theorem Ev.start_small {e : Ev} (h : e.small) : e.start.small := ⟨h.name, by simp [Ev.start], h.attrs, h.each⟩
theorem Ev.close_small {e : Ev} (h : e.small) : e.close.small := ⟨h.name, by simp [Ev.close], by simp [Ev.close], by simp [Ev.close]⟩
end Go.Proofs.YtcdogceabkpnmaaDoor

/-
  Slices written out of elements of many cells; regions that draw their order, by an invariant of the whole state.
-/
set_option linter.unusedSimpArgs false
set_option linter.unusedVariables false
set_option linter.unnecessarySimpa false
namespace Go.Sv
open Go Go.RowKit
theorem fill_rows (size : Nat) : ∀ (vs : List (List Value)) (j : Nat) (z : List Value), (∀ v ∈ vs, v.length = size) → (j + vs.length) * size ≤ z.length →
    Instr.fill (fun i => some (i * size, size)) z.toArray (enum (vs.map fun l => .agg l.toArray) j) = some (z.take (j * size) ++ vs.flatten ++ z.drop ((j + vs.length) * size)).toArray
  | [], j, z, _, _ => by simp [enum, Instr.fill]
  | v :: vs, j, z, hv, hj => by
    have h1 := hv v List.mem_cons_self
    simp only [List.length_cons] at hj
    have hj1 : (j + 1 + vs.length) * size ≤ z.length := by rw [show j + 1 + vs.length = j + (vs.length + 1) from by omega]; exact hj
    have hle : j * size + size ≤ z.length := by
      refine Nat.le_trans ?_ hj1
      rw [← Nat.succ_mul]
      exact Nat.mul_le_mul_right _ (by omega)
    have hlen : (setSeg z (j * size) v).length = z.length := by simp only [setSeg, List.length_append, List.length_take, List.length_drop, h1]; omega
    have ih := fill_rows size vs (j + 1) (setSeg z (j * size) v) (fun u hu => hv u (List.mem_cons_of_mem _ hu)) (by rw [hlen]; exact hj1)
    simp only [enum, List.map_cons, List.zipIdx_cons, Instr.fill]
    have hu : (Value.agg v.toArray).cells = v.toArray := rfl
    generalize Value.agg v.toArray = u at hu
    have hcond : ¬ ((u.cells.size ≠ size || j * size + u.cells.size > z.toArray.size) = true) := by simp [hu, h1]; omega
    simp only [hcond, if_false]
    have hf := foldl_setSeg (j * size) v 0 z.toArray (by simp [h1]; omega)
    have hf2 : u.cells.zipIdx.foldl (fun cs (x : Value × Nat) => cs.setIfInBounds (j * size + x.2) x.1) z.toArray = (setSeg z (j * size) v).toArray := by
      rw [hu, ← Array.foldl_toList]
      simpa [Array.toList_zipIdx] using hf
    rw [show (fun cs (x : Value × Nat) => match x with | (c, k) => cs.setIfInBounds (j * size + k) c) = (fun (cs : Array Value) (x : Value × Nat) => cs.setIfInBounds (j * size + x.2) x.1) from rfl, hf2]
    rw [enum] at ih
    rw [ih]
    congr 1
    have e1 : (setSeg z (j * size) v).take ((j + 1) * size) = z.take (j * size) ++ v := by
      simp only [setSeg]
      rw [Nat.succ_mul, List.take_left' (by simp only [List.length_append, List.length_take, h1]; omega)]
    have e2 : (setSeg z (j * size) v).drop ((j + 1 + vs.length) * size) = z.drop ((j + (vs.length + 1)) * size) := by
      simp only [setSeg, h1]
      rw [List.drop_append, List.drop_eq_nil_of_le (by simp only [List.length_append, List.length_take, h1]; rw [Nat.min_eq_left (by omega), ← Nat.succ_mul]; exact Nat.mul_le_mul_right _ (by omega)), List.nil_append, List.drop_drop]
      congr 1
      simp only [List.length_append, List.length_take, h1]
      have : (j + 1 + vs.length) * size = j * size + size + vs.length * size := by rw [Nat.add_mul, Nat.succ_mul]
      have h2 : (j + (vs.length + 1)) * size = j * size + size + vs.length * size := by rw [← Nat.add_assoc, Nat.add_mul, Nat.add_mul]; omega
      rw [Nat.min_eq_left (by omega), this, h2]
      omega
    rw [e1, e2]
    simp
section
variable {P : Program} {n : Nat} {ds : Ctx} {ops : Array Oper} {Q : Exit → Ctx → Env → World → Prop} {rest : List Oper} {σ : GE} {w : World} {d : Nat} {ty t t' e : TypeId} {pos : String} {af : Array Edge} {x : Operand} {zv : Value} {size bytes : Nat}
/-- a slice written out, of structs -/
theorem wlbsr [hu : Und P t (.slice e)] [hi : Inf P e zv size bytes] {ps : List (Nat × Operand)} (vs : List (List Value)) (k : Nat) (h : ∀ b w', w.heap.size ≤ b → Own w' b vs.flatten → Frm w w' → WL P n ds ops Q rest (real (updG σ d ⟨.slice (pb b) k k, true⟩)) w')
    (hps : ps.map (fun p => (p.1, evl (real σ) p.2)) = enum (vs.map fun l => .agg l.toArray) 0 := by rfl) (hk : vs.length = k := by rfl) (h1 : ∀ v ∈ vs, v.length = size := by simp) (hz : zv.cells.size = size := by rfl) (hk1 : k * size ≤ 16777216 := by decide) (hk0 : k * size ≠ 0 := by decide) :
    WL P n ds ops Q (⟨some d, .buildSlice t k ps.toArray, ty, pos, af, none⟩ :: rest) (real σ) w := by
  subst hk
  have hfl : ∀ l : List (List Value), (∀ v ∈ l, v.length = size) → l.flatten.length = l.length * size := by
    intro l
    induction l with
    | nil => simp
    | cons v l ih => intro h; simp only [List.flatten_cons, List.length_append, List.length_cons, Nat.succ_mul]; rw [h v List.mem_cons_self, ih fun u hu => h u (List.mem_cons_of_mem _ hu)]; omega
  refine wl (h w.heap.size (w.alloc (.cells vs.flatten.toArray e)) (Nat.le_refl _) (by have := own_alloc w vs.flatten.toArray e; simpa using this) (frm_alloc _ _)) (Y.val ?_)
  have hf := fill_rows size vs 0 ((Array.range (vs.length * size)).map (zv.cells[· % zv.cells.size]!)).toList h1 (by simp)
  have hpa : (ps.toArray.map fun (x : Nat × Operand) => match x with | (i, x) => (i, evl (real σ) x)).toList = enum (vs.map fun l => .agg l.toArray) 0 := by rw [← hps]; simp
  simp only [execOp, Instr.buildSlice, Sem.run_bind, underlying, run_program, Result.andThen_ok, hu.ok, Sem.run_pure, run_sizeOf (P := P) (t := e)]
  rw [if_neg (by omega), if_neg hk0]
  simp only [Sem.run_bind, Sem.run_pure, Result.andThen_ok, run_zeroValue (P := P) (t := e)]
  rw [hpa]
  simp only [Array.toArray_toList, Nat.zero_mul, Nat.zero_add] at hf
  rw [hf]
  have hz0 : List.drop (vs.length * size) (List.map (fun x => zv.cells[x % zv.cells.size]!) (List.range (vs.length * size))) = [] := List.drop_eq_nil_of_le (by simp)
  simp [newRow, hz0]
end

/-! ## Regions that draw their order, by an invariant -/
def fwdB (ops : Array Oper) : Bool := (List.range ops.size).all fun j => match ops[j]? with
  | some o => o.after.all fun e => !Region.binds .any e || decide (e.on < j)
  | none => true
theorem ready_of_fwd {ops : Array Oper} (hf : fwdB ops = true) {listed : Array Bool} (hsz : listed.size = ops.size) (hr : Region.ready .any ops listed = []) : ∀ k, k < ops.size → fl listed k = true := by
  intro k
  induction k using Nat.strongRecOn with
  | _ k ih =>
    intro hk
    cases hL : fl listed k with
    | true => rfl
    | false =>
      exfalso
      have hmem : k ∈ Region.ready .any ops listed := by
        refine mem_ready.2 ⟨?_, ops[k], by simp [hk], ?_⟩
        · simp only [fl, Array.getD_eq_getD_getElem?, show k < listed.size from by omega, Array.getElem?_eq_getElem, Option.getD_some] at hL ⊢
          exact hL
        · intro e he hb
          simp only [fwdB, List.all_eq_true, List.mem_range] at hf
          have h1 := hf k hk
          simp only [hk, Array.getElem?_eq_getElem] at h1
          have h2 := Array.all_eq_true_iff_forall_mem.1 h1 e he
          simp only [hb, Bool.not_true, Bool.false_or, decide_eq_true_eq] at h2
          exact ih e.on h2 (by omega)
      rw [hr] at hmem
      cases hmem
/-- what comes of an operation, whatever it yields -/
def comes (P : Program) (T : Value → World → Prop) : Result Next → Prop
  | .ok (.value u) w' => T u w'
  | .ok .skip w' => T undef w'
  | .ok (.enter f args) w' => Calls P f args w' (fun e w'' => ∃ v, e = .returned v ∧ T v w'')
  | _ => False
def StepI (P : Program) (ops : Array Oper) (S : (Nat → Bool) → Env → World → Prop) (k : Nat) (o : Oper) : Prop := ∀ L σ w, Up ops o k L → S L σ w →
  (Region.wanted o (yl ops σ) = true ∧ comes P (fun v w' => S (on L k) (updO σ o.dst v) w') ((execOp (evl σ) o).run P w)) ∨ (Region.wanted o (yl ops σ) = false ∧ S (on L k) (updO σ o.dst undef) w)
def StepsI (P : Program) (ops : Array Oper) (S : (Nat → Bool) → Env → World → Prop) : Nat → List Oper → Prop
  | _, [] => True
  | k, o :: l => StepI P ops S k o ∧ StepsI P ops S (k + 1) l
theorem stepsI_get {P : Program} {ops : Array Oper} {S : (Nat → Bool) → Env → World → Prop} : ∀ {l : List Oper} {k : Nat}, StepsI P ops S k l → ∀ j o, l[j]? = some o → StepI P ops S (k + j) o
  | [], _, _, j, o, h => by simp at h
  | x :: l, k, hs, 0, o, h => by simp only [List.getElem?_cons_zero, Option.some.injEq] at h; subst h; exact hs.1
  | x :: l, k, hs, j + 1, o, h => by
    have := stepsI_get hs.2 j o (by simpa using h)
    rwa [show k + 1 + j = k + (j + 1) from by omega] at this
section
variable {P : Program} {n : Nat} {ds : Ctx} {Q : Exit → Ctx → Env → World → Prop} {S : (Nat → Bool) → Env → World → Prop} {σ : Env} {w : World}
theorem comes_of_Y {o : Oper} {v : Value} {w w' : World} {T : Value → World → Prop} (hy : Y P σ o w v w') (hT : T v w') : comes P T ((execOp (evl σ) o).run P w) := by
  unfold Y at hy
  rcases hy with hy | ⟨hy, rfl⟩
  · rw [hy]; exact hT
  · rw [hy]; exact hT
end
end Go.Sv

/-
  Packages names and sieveref04: which names are in the set of void elements; texts parted by blanks.
-/
set_option linter.unusedSimpArgs false
set_option linter.unusedVariables false
set_option linter.unnecessarySimpa false
namespace Go.Proofs.YtcdogceabkpnmaaDoor
open Go Go.Sv Go.RowKit

def strs (l : List (List UInt8)) : List Value := l.map fun s => str s
theorem strs_len (l : List (List UInt8)) : (strs l).length = l.length := by simp [strs]
theorem strs_get {l : List (List UInt8)} {i : Nat} (h : i < l.length) : (strs l)[i]? = some (str l[i]) := by simp [strs, h]
theorem strs_app (l m : List (List UInt8)) : strs (l ++ m) = strs l ++ strs m := by simp [strs]
theorem strs_snoc (l : List (List UInt8)) (x : List UInt8) : strs l ++ [str x] = strs (l ++ [x]) := (strs_app l [x]).symm
theorem strs_one (l : List (List UInt8)) : ∀ u ∈ strs l, u.oneCell' = true := by
  intro u hu
  obtain ⟨x, _, rfl⟩ := List.mem_map.1 hu
  rfl

/-- the table of blanks holds what its initialiser lays -/
def Asc (w : World) : Prop := Lib.TabIs Tryd.prog w "strings.asciiSpace" .u8 Lib.asciiSpaceTab
theorem gAsc : Tryd.prog.globalNamed "strings.asciiSpace" = some 0 := by kernel_rfl
theorem Asc.frm {w w' : World} (h : Asc w) (hf : Frm w w') : Asc w' := by
  unfold Asc Lib.TabIs World.var? at h ⊢
  rw [gAsc] at h ⊢
  simp only [Option.bind_some] at h ⊢
  have hlt : 0 < w.heap.size := by
    rcases Nat.lt_or_ge 0 w.heap.size with h' | h'
    · exact h'
    · rw [Array.getElem?_eq_none h'] at h; cases h
  rw [hf.block _ hlt]
  exact h

/-! ## sieveref04: Fields -/
def blkR (c : UInt8) : Bool := decide (c = 9 ∨ c = 10 ∨ c = 12 ∨ c = 32)
def fgo : List UInt8 → List UInt8 → List (List UInt8)
  | cur, [] => if cur = [] then [] else [cur]
  | cur, b :: l => if blkR b then (if cur = [] then fgo [] l else cur :: fgo [] l) else fgo (cur ++ [b]) l
def fieldsR (s : List UInt8) : List (List UInt8) := fgo [] s
theorem refBlank_ok (c : Int) (w : World) : PureC Tryd.prog 98 #[i32 c] w (.bool (decide (c = 9 ∨ c = 10 ∨ c = 12 ∨ c = 32))) := by
  refine enter (l := [i32 c]) Tryd.func98 rfl Tryd.ntmps98 (by kernel_rfl) rfl ?_
  refine sgo ?_
  (first | refine fp1 (.inl rfl) rfl rfl ?_ | refine fp2 (.inl rfl) rfl rfl rfl ?_ | refine fp3 (.inl rfl) rfl rfl rfl rfl ?_ | refine fp0 (.inr rfl) rfl ?_ | refine fp0 (.inl rfl) rfl ?_ | refine fp1 (.inr rfl) rfl rfl ?_); refine ⟨?_, by (first | exact Frm.refl _ | assumption | exact Go.Sv.Sep.frm (by assumption) | (refine Frm.trans ?_ (by assumption); first | exact Frm.refl _ | assumption))⟩; (try simp only [realB, rv_true, Nat.reduceBEq, cond_true, cond_false, entG, real_lif, updGL])
  congr 1
  simp only [pkb_or, Bool.decide_or, Bool.or_assoc]
theorem refBlankB_ok (c : UInt8) (w : World) : PureC Tryd.prog 80 #[byt c.toNat] w (.bool (blkR c)) := by
  refine enter (l := [byt c.toNat]) Tryd.func80 rfl Tryd.ntmps80 (by kernel_rfl) rfl ?_
  refine sgo ?_
  refine wlpure (refBlank_ok c.toNat _) fun w1 hf1 => ?_
  refine sgo ?_
  (first | refine fp1 (.inl rfl) rfl rfl ?_ | refine fp2 (.inl rfl) rfl rfl rfl ?_ | refine fp3 (.inl rfl) rfl rfl rfl rfl ?_ | refine fp0 (.inr rfl) rfl ?_ | refine fp0 (.inl rfl) rfl ?_ | refine fp1 (.inr rfl) rfl rfl ?_); refine ⟨?_, by (first | exact Frm.refl _ | assumption | exact Go.Sv.Sep.frm (by assumption) | (refine Frm.trans ?_ (by assumption); first | exact Frm.refl _ | assumption))⟩; (try simp only [realB, rv_true, Nat.reduceBEq, cond_true, cond_false, entG, real_lif, updGL])
  congr 1
  unfold blkR
  refine decide_eq_decide.2 ?_
  simp only [← UInt8.toNat_inj, show UInt8.toNat 9 = 9 from rfl, show UInt8.toNat 10 = 10 from rfl, show UInt8.toNat 12 = 12 from rfl, show UInt8.toNat 32 = 32 from rfl]
  omega
theorem fgo_blk {s : List UInt8} {a i : Nat} (hai : a ≤ i) (hi : i < s.length) (h : blkR s[i] = true) : fgo ((s.drop a).take (i - a)) (s.drop i) = (if a < i then [(s.drop a).take (i - a)] else []) ++ fgo [] (s.drop (i + 1)) := by
  rw [List.drop_eq_getElem_cons hi, fgo, if_pos h]
  by_cases e : a < i
  · rw [if_pos e, if_neg (by intro h; have := congrArg List.length h; simp at this; omega)]; rfl
  · rw [if_neg e, if_pos (by rw [show i - a = 0 by omega]; rfl)]; rfl
theorem fgo_no {s : List UInt8} {a i : Nat} (hai : a ≤ i) (hi : i < s.length) (h : blkR s[i] = false) : fgo ((s.drop a).take (i - a)) (s.drop i) = fgo ((s.drop a).take (i + 1 - a)) (s.drop (i + 1)) := by
  rw [List.drop_eq_getElem_cons hi, fgo, if_neg (by simp [h])]
  congr 1
  rw [show i + 1 - a = (i - a) + 1 by omega, List.take_add_one]
  simp [show a + (i - a) = i by omega, hi]
theorem fgo_end {s : List UInt8} {a : Nat} (ha : a ≤ s.length) : fgo ((s.drop a).take (s.length - a)) [] = (if a < s.length then [(s.drop a).take (s.length - a)] else []) := by
  rw [fgo]
  by_cases e : a < s.length
  · rw [if_pos e, if_neg (by intro h; have := congrArg List.length h; simp at this; omega)]
  · rw [if_neg e, if_pos (by rw [show s.length - a = 0 by omega]; rfl)]
set_option maxHeartbeats 2000000 in
theorem refFields_ok (s : List UInt8) (hb : s.length ≤ 1048576) (w : World) :
    CallsR Tryd.prog 67 #[str s] w fun v w' => ∃ q c, v = .slice q (fieldsR s).length c ∧ Sep w w' [pRow 1 q (fieldsR s).length c (strs (fieldsR s))] := by
  refine enter (l := [str s]) Tryd.func67 rfl Tryd.ntmps67 (by kernel_rfl) rfl ?_
  refine sgo ?_
  refine wcloop (X := Nat × Nat × Option Addr × Nat × List (List UInt8)) (fun x => [(0, str s), (3, .slice x.2.2.1 x.2.2.2.2.length x.2.2.2.1), (4, int x.2.1), (5, int x.1)])
    (fun x wr => x.2.1 ≤ x.1 ∧ x.1 ≤ s.length + 1 ∧ x.2.2.2.2.length ≤ x.1 ∧ (x.1 ≤ s.length → x.2.2.2.2 ++ fgo ((s.drop x.2.1).take (x.1 - x.2.1)) (s.drop x.1) = fieldsR s) ∧ (x.1 = s.length + 1 → x.2.2.2.2 = fieldsR s) ∧ Sep w wr [pRow 1 x.2.2.1 x.2.2.2.2.length x.2.2.2.1 (strs x.2.2.2.2)])
    (fun x => s.length + 1 - x.1) (0, 0, none, 0, []) ⟨rfl, rfl, rfl, rfl, trivial⟩ ⟨Nat.le_refl 0, Nat.zero_le _, Nat.le_refl 0, fun _ => by simp [fieldsR], fun h => by simp at h, (Sep.start w).push (Frm.refl w) (Row.nil w 1) (by simp [pRow, rb])⟩ ?_
  rintro ⟨i, a, q, cc, out⟩ wr ρ ⟨hai, hil, hol, hA, hB, hS⟩
  dsimp only at *
  refine sgo ?_
  (show WC _ _ _ _ _ _ _; first | refine WC_dec rfl (fun hc => ?_) (fun hc => ?_) | refine WC_cond rfl (fun hc => ?_) (fun hc => ?_))
  · have hle : i ≤ s.length := by omega
    specialize hA hle
    clear hB hc
    refine sgo ?_
    refine wlcallgp (vals := [byt ((s[i]?.getD 0)).toNat]) (fun _ => refBlankB_ok _ _) fun w1 hf1 => ?_
    replace hS := hS.grow hf1
    refine sgo ?_
    (show WC _ _ _ _ _ _ _; first | refine WC_dec rfl (fun hc => ?_) (fun hc => ?_) | refine WC_cond rfl (fun hc => ?_) (fun hc => ?_))
    · simp only [pkb_and, Bool.and_eq_true, decide_eq_true_eq, Bool.not_eq_true'] at hc
      have hlt : i < s.length := by omega
      have hno : blkR s[i] = false := by have := hc.2; simpa [hlt] using this
      refine sgo ?_
      refine ⟨(i + 1, a, q, cc, out), ⟨rfl, rfl, rfl, rfl, trivial⟩, ⟨(by (try dsimp only); omega), (by (try dsimp only); omega), (by (try dsimp only); omega), fun _ => ?_, fun h => by dsimp only at h; omega, hS⟩, (by (try dsimp only); omega)⟩
      dsimp only
      rw [← hA, fgo_no hai hlt hno]
    · simp only [pkb_and, Bool.and_eq_false_iff, decide_eq_false_iff_not, Bool.not_eq_false'] at hc
      have hnext : out ++ (if a < i then [(s.drop a).take (i - a)] else []) ++ (if i < s.length then fgo [] (s.drop (i + 1)) else []) = fieldsR s := by
        rw [← hA]
        by_cases hlt : i < s.length
        · have hyes : blkR s[i] = true := by
            rcases hc with h | h
            · omega
            · simpa [hlt] using h
          rw [fgo_blk hai hlt hyes, if_pos hlt, List.append_assoc]
        · obtain rfl : i = s.length := by omega
          rw [List.drop_length, fgo_end hai, if_neg hlt, List.append_nil]
      refine sgo ?_
      (show WC _ _ _ _ _ _ _; first | refine WC_dec rfl (fun hc => ?_) (fun hc => ?_) | refine WC_cond rfl (fun hc => ?_) (fun hc => ?_))
      · have hlt : a < i := by omega
        rw [if_pos hlt] at hnext
        clear hc
        refine sgo ?_
        refine sb1s hS fun b2 w2 hS => ?_
        refine sgo ?_
        refine sapp hS 1 (hS.own 0 rfl).sg fun q c w3 hS => ?_
        replace hS := hS.tail
        rw [strs_snoc] at hS
        have hn : out.length + 1 = (out ++ [List.take (i - a) (List.drop a s)]).length := by simp
        rw [hn] at hS ⊢
        refine sgo ?_
        refine ⟨(i + 1, i + 1, q, c, out ++ [(s.drop a).take (i - a)]), ⟨rfl, rfl, rfl, rfl, trivial⟩, ⟨Nat.le_refl _, (by (try dsimp only); omega), (by simp; omega), fun h => ?_, fun h => ?_, ?_⟩, (by (try dsimp only); omega)⟩
        · simp only [Nat.sub_self, List.take_zero]
          rw [if_pos (by omega)] at hnext; exact hnext
        · dsimp only at h
          rw [if_neg (by omega), List.append_nil] at hnext; exact hnext
        · exact hS
      · have hlt : ¬ a < i := by omega
        rw [if_neg hlt, List.append_nil] at hnext
        clear hc
        refine sgo ?_
        refine ⟨(i + 1, i + 1, q, cc, out), ⟨rfl, rfl, rfl, rfl, trivial⟩, ⟨Nat.le_refl _, (by (try dsimp only); omega), (by simp; omega), fun h => ?_, fun h => ?_, hS⟩, (by (try dsimp only); omega)⟩
        · simp only [Nat.sub_self, List.take_zero]
          rw [if_pos (by omega)] at hnext; exact hnext
        · dsimp only at h
          rw [if_neg (by omega), List.append_nil] at hnext; exact hnext
  · obtain rfl : i = s.length + 1 := by omega
    refine sgo ?_
    (first | refine fp1 (.inl rfl) rfl rfl ?_ | refine fp2 (.inl rfl) rfl rfl rfl ?_ | refine fp3 (.inl rfl) rfl rfl rfl rfl ?_ | refine fp0 (.inr rfl) rfl ?_ | refine fp0 (.inl rfl) rfl ?_ | refine fp1 (.inr rfl) rfl rfl ?_)
    rw [← hB rfl]
    exact ⟨q, cc, rfl, hS⟩

/-! ## the sets -/
def voidL : List (List UInt8) := fieldsR [97, 114, 101, 97, 32, 98, 97, 115, 101, 32, 98, 114, 32, 99, 111, 108, 32, 101, 109, 98, 101, 100, 32, 104, 114, 32, 105, 109, 103, 32, 105, 110, 112, 117, 116, 32, 108, 105, 110, 107, 32, 109, 101, 116, 97, 32, 115, 111, 117, 114, 99, 101, 32, 116, 114, 97, 99, 107, 32, 119, 98, 114]
def voidT : List UInt8 := [97, 114, 101, 97, 32, 98, 97, 115, 101, 32, 98, 114, 32, 99, 111, 108, 32, 101, 109, 98, 101, 100, 32, 104, 114, 32, 105, 109, 103, 32, 105, 110, 112, 117, 116, 32, 108, 105, 110, 107, 32, 109, 101, 116, 97, 32, 115, 111, 117, 114, 99, 101, 32, 116, 114, 97, 99, 107, 32, 119, 98, 114]
/-- is a name a void element's? -/
def voidR (n : List UInt8) : Bool := decide (n ∈ voidL)
theorem voidL_len : voidL.length = 13 := by decide
theorem void_fields : Lib.fields (voidT ++ [32]) = voidL := by decide +kernel
theorem isSet_ok (k : Nat) (hk : k < 16) (w : World) : PureC Tryd.prog 93 #[int k] w (.bool true) := by
  refine enter (l := [int k]) Tryd.func93 rfl Tryd.ntmps93 (by kernel_rfl) rfl ?_
  refine sgo ?_
  (first | refine fp1 (.inl rfl) rfl rfl ?_ | refine fp2 (.inl rfl) rfl rfl rfl ?_ | refine fp3 (.inl rfl) rfl rfl rfl rfl ?_ | refine fp0 (.inr rfl) rfl ?_ | refine fp0 (.inl rfl) rfl ?_ | refine fp1 (.inr rfl) rfl rfl ?_); refine ⟨?_, by (first | exact Frm.refl _ | assumption | exact Go.Sv.Sep.frm (by assumption) | (refine Frm.trans ?_ (by assumption); first | exact Frm.refl _ | assumption))⟩; (try simp only [realB, rv_true, Nat.reduceBEq, cond_true, cond_false, entG, real_lif, updGL])
  congr 1
  simp only [pkb_and, Bool.and_eq_true, decide_eq_true_eq]
  omega
end Go.Proofs.YtcdogceabkpnmaaDoor

/-
  Package names: the sets' names.
-/
set_option linter.unusedSimpArgs false
set_option linter.unusedVariables false
set_option linter.unnecessarySimpa false
namespace Go.Proofs.YtcdogceabkpnmaaDoor
open Go Go.Sv Go.RowKit
set_option maxHeartbeats 4000000 in
set_option maxRecDepth 100000 in
/-- the sets' names -/
theorem lists_ok (w : World) : CallsR Tryd.prog 95 #[] w fun v w' => Frm w w' ∧ ∃ vs : Array Value, v = .agg vs ∧ vs[0]? = some (str (voidT ++ [32])) := by
  refine enter (l := []) Tryd.func95 rfl Tryd.ntmps95 (by kernel_rfl) rfl ?_
  have hS := Sep.start w
  refine sgo ?_
  refine salloc hS fun b0 w0 hS => ?_
  refine sgo ?_
  refine salloc hS fun b1 w1 hS => ?_
  refine sgo ?_
  replace hS : Sep w w1 [pOwn b1 (strs (List.replicate 16 [])), pOwn b0 (strs (List.replicate 16 []))] := hS
  iterate 15 (refine sst_str hS 0 fun w2 hS => ?_; refine sgo ?_)
  refine sst_str hS 0 fun w2 hS => ?_
  obtain ⟨L, hlen, h1, h0, hS⟩ : ∃ L : List Value, L.length = 16 ∧ (L.all fun c => c.oneCell') = true ∧ L[0]? = some (str (voidT ++ [32])) ∧ Sep w w2 [pOwn b1 L, pOwn b0 (strs (List.replicate 16 []))] := ⟨_, by simp [strs], rfl, rfl, hS⟩
  refine sgo ?_
  refine ssta (vs := L) hS 1 (fun w3 hS => ?_) (hy := by rw [show (Value.agg ⟨L⟩) = .agg ⟨(L.drop 0).take 16⟩ from by rw [List.drop_zero, ← hlen, List.take_length]]; rfl) (hv := ⟨hlen, rfl⟩) (h1 := h1)
  refine sgo ?_
  have ho := hS.own 1 rfl
  refine fpc (l := L) (zv := .agg ⟨strs (List.replicate 16 [])⟩) (.inl rfl) rfl rfl rfl ho (hi := by rw [hlen]; infer_instance) ⟨hS.frm, _, rfl, by simpa using h0⟩
end Go.Proofs.YtcdogceabkpnmaaDoor

/-
  Packages names and sieveref04: In, of the void elements.
-/
set_option linter.unusedSimpArgs false
set_option linter.unusedVariables false
set_option linter.unnecessarySimpa false
namespace Go.Proofs.YtcdogceabkpnmaaDoor
open Go Go.Sv Go.RowKit

/-- strings.Fields, of ASCII -/
theorem strFields_ok (s : List UInt8) (hb : s.length ≤ 1048576) (ha : s.all (fun c => decide (c.toNat < 128)) = true) (w : World) (hA : Asc w) :
    CallsR Tryd.prog 94 #[str s] w fun v w' => ∃ b, v = .slice (pb b) (Lib.fields s).length (Lib.fields s).length ∧ Sep w w' [pOwn b (strs (Lib.fields s))] := by
  refine Calls.mono (Tryd.strings_Fields ⟨s.toArray⟩ w (by rw [ByteArray.size]; simp; omega) (fun j b hb => ?_) hA) ?_
  · have hm := List.mem_of_getElem? hb
    have := List.all_eq_true.1 ha b (by simpa using hm)
    simpa using this
  · rintro e w' ⟨rfl, rfl⟩
    refine ⟨_, rfl, w.heap.size, rfl, ?_⟩
    refine (Sep.start w).push (frm_alloc w _) (own_alloc w _ _) (by simp [pOwn])
theorem mem_at {α : Type} {l : List α} {x : α} (h : ∀ i : Nat, (hi : i < l.length) → l[i] ≠ x) : x ∉ l := by
  intro hm
  obtain ⟨i, hi, e⟩ := List.mem_iff_getElem.1 hm
  exact h i hi e
set_option maxHeartbeats 1000000 in
theorem in0_ok (n : List UInt8) (w : World) (hA : Asc w) : PureC Tryd.prog 78 #[str n, int 0] w (.bool (voidR n)) := by
  refine enter (l := [str n, int 0]) Tryd.func78 rfl Tryd.ntmps78 (by kernel_rfl) rfl ?_
  refine sgo ?_
  refine wlpure (isSet_ok 0 (by decide) _) fun w1 hf1 => ?_
  refine sgo ?_
  refine wlcall (lists_ok w1) ?_
  rintro _ w2 ⟨hf2, vs, rfl, h0⟩
  refine sgo ?_
  refine wlcall (strFields_ok (voidT ++ [32]) (by decide) (by decide) w2 ((hA.frm hf1).frm hf2)) ?_
  rintro _ w3 ⟨b, rfl, hS⟩
  rw [void_fields] at hS ⊢
  have hf := hf1.trans hf2
  replace hS : Sep w w3 [pOwn b (strs voidL)] := ⟨hf.trans hS.frm, hS.ok, fun c hc x hx => Nat.le_trans hf.size (hS.low c hc x hx), hS.apart⟩
  refine sgo ?_
  refine wcloop (X := Nat) (fun i => [(0, str n), (13, .slice (pb b) voidL.length voidL.length), (14, int voidL.length), (15, int i)])
    (fun i wr => i ≤ voidL.length ∧ (∀ j, (hj : j < voidL.length) → j < i → voidL[j] ≠ n) ∧ wr = w3) (fun i => voidL.length - i) 0 ⟨rfl, rfl, rfl, rfl, trivial⟩ ⟨Nat.zero_le _, fun _ _ h => absurd h (by omega), rfl⟩ ?_
  rintro i wr ρ ⟨hil, hj, rfl⟩
  refine sgo ?_
  (show WC _ _ _ _ _ _ _; first | refine WC_dec rfl (fun hc => ?_) (fun hc => ?_) | refine WC_cond rfl (fun hc => ?_) (fun hc => ?_))
  · have hlt : i < voidL.length := by omega
    have hvl := voidL_len
    have hg := strs_get hlt
    generalize hx : voidL[i] = x at *
    clear hc
    refine sgo ?_
    (show WC _ _ _ _ _ _ _; first | refine WC_dec rfl (fun hc => ?_) (fun hc => ?_) | refine WC_cond rfl (fun hc => ?_) (fun hc => ?_))
    · refine sgo ?_
      (first | refine fp1 (.inl rfl) rfl rfl ?_ | refine fp2 (.inl rfl) rfl rfl rfl ?_ | refine fp3 (.inl rfl) rfl rfl rfl rfl ?_ | refine fp0 (.inr rfl) rfl ?_ | refine fp0 (.inl rfl) rfl ?_ | refine fp1 (.inr rfl) rfl rfl ?_); refine ⟨?_, by (first | exact Frm.refl _ | assumption | exact Go.Sv.Sep.frm (by assumption) | (refine Frm.trans ?_ (by assumption); first | exact Frm.refl _ | assumption))⟩; (try simp only [realB, rv_true, Nat.reduceBEq, cond_true, cond_false, entG, real_lif, updGL])
      rw [voidR, decide_eq_true]
      rw [← hc, ← hx]; exact List.getElem_mem hlt
    · refine sgo ?_
      refine ⟨i + 1, ⟨rfl, rfl, rfl, rfl, trivial⟩, ⟨hlt, fun j hj' hji => ?_, rfl⟩, (by (try dsimp only); omega)⟩
      rcases Nat.lt_or_ge j i with h | h
      · exact hj j hj' h
      · obtain rfl : j = i := by omega
        rw [hx]; exact hc
  · refine sgo ?_
    (first | refine fp1 (.inl rfl) rfl rfl ?_ | refine fp2 (.inl rfl) rfl rfl rfl ?_ | refine fp3 (.inl rfl) rfl rfl rfl rfl ?_ | refine fp0 (.inr rfl) rfl ?_ | refine fp0 (.inl rfl) rfl ?_ | refine fp1 (.inr rfl) rfl rfl ?_); refine ⟨?_, by (first | exact Frm.refl _ | assumption | exact Go.Sv.Sep.frm (by assumption) | (refine Frm.trans ?_ (by assumption); first | exact Frm.refl _ | assumption))⟩; (try simp only [realB, rv_true, Nat.reduceBEq, cond_true, cond_false, entG, real_lif, updGL])
    rw [voidR, decide_eq_false]
    exact mem_at fun j hj' => hj j hj' (by omega)
set_option maxHeartbeats 1000000 in
theorem text0_ok (w : World) : PureC Tryd.prog 68 #[int 0] w (str voidT) := by
  refine enter (l := [int 0]) Tryd.func68 rfl Tryd.ntmps68 (by kernel_rfl) rfl ?_
  refine sgo ?_
  (first | refine fp1 (.inl rfl) rfl rfl ?_ | refine fp2 (.inl rfl) rfl rfl rfl ?_ | refine fp3 (.inl rfl) rfl rfl rfl rfl ?_ | refine fp0 (.inr rfl) rfl ?_ | refine fp0 (.inl rfl) rfl ?_ | refine fp1 (.inr rfl) rfl rfl ?_); refine ⟨?_, by (first | exact Frm.refl _ | assumption | exact Go.Sv.Sep.frm (by assumption) | (refine Frm.trans ?_ (by assumption); first | exact Frm.refl _ | assumption))⟩; (try simp only [realB, rv_true, Nat.reduceBEq, cond_true, cond_false, entG, real_lif, updGL])
  rfl
set_option maxHeartbeats 1000000 in
theorem refIn0_ok (n : List UInt8) (w : World) : PureC Tryd.prog 50 #[str n, int 0] w (.bool (voidR n)) := by
  refine enter (l := [str n, int 0]) Tryd.func50 rfl Tryd.ntmps50 (by kernel_rfl) rfl ?_
  refine sgo ?_
  (show WC _ _ _ _ _ _ _; first | refine WC_dec rfl (fun hc => ?_) (fun hc => ?_) | refine WC_cond rfl (fun hc => ?_) (fun hc => ?_))
  · subst hc
    refine sgo ?_
    (first | refine fp1 (.inl rfl) rfl rfl ?_ | refine fp2 (.inl rfl) rfl rfl rfl ?_ | refine fp3 (.inl rfl) rfl rfl rfl rfl ?_ | refine fp0 (.inr rfl) rfl ?_ | refine fp0 (.inl rfl) rfl ?_ | refine fp1 (.inr rfl) rfl rfl ?_); refine ⟨?_, by (first | exact Frm.refl _ | assumption | exact Go.Sv.Sep.frm (by assumption) | (refine Frm.trans ?_ (by assumption); first | exact Frm.refl _ | assumption))⟩; (try simp only [realB, rv_true, Nat.reduceBEq, cond_true, cond_false, entG, real_lif, updGL])
    rw [show voidR [] = false from by decide +kernel]
  refine sgo ?_
  refine wlpure (text0_ok _) fun w1 hf1 => ?_
  refine sgo ?_
  refine wlcall (refFields_ok voidT (by decide) w1) ?_
  rintro _ w3 ⟨q, c, rfl, hS⟩
  rw [show fieldsR voidT = voidL from rfl] at hS ⊢
  replace hS : Sep w w3 [pRow 1 q voidL.length c (strs voidL)] := ⟨hf1.trans hS.frm, hS.ok, fun c hc x hx => Nat.le_trans hf1.size (hS.low c hc x hx), hS.apart⟩
  have hq : ∃ a, q = some a := (hS.row 0 rfl).sg.some (by decide)
  clear hc
  refine sgo ?_
  refine wcloop (X := Nat) (fun i => [(0, str n), (11, .slice q voidL.length c), (12, int voidL.length), (13, int i)])
    (fun i wr => i ≤ voidL.length ∧ (∀ j, (hj : j < voidL.length) → j < i → voidL[j] ≠ n) ∧ wr = w3) (fun i => voidL.length - i) 0 ⟨rfl, rfl, rfl, rfl, trivial⟩ ⟨Nat.zero_le _, fun _ _ h => absurd h (by omega), rfl⟩ ?_
  rintro i wr ρ ⟨hil, hj, rfl⟩
  refine sgo ?_
  (show WC _ _ _ _ _ _ _; first | refine WC_dec rfl (fun hc => ?_) (fun hc => ?_) | refine WC_cond rfl (fun hc => ?_) (fun hc => ?_))
  · have hlt : i < voidL.length := by omega
    have hvl := voidL_len
    have hg := strs_get hlt
    generalize hx : voidL[i] = x at *
    clear hc
    refine sgo ?_
    (show WC _ _ _ _ _ _ _; first | refine WC_dec rfl (fun hc => ?_) (fun hc => ?_) | refine WC_cond rfl (fun hc => ?_) (fun hc => ?_))
    · refine sgo ?_
      (first | refine fp1 (.inl rfl) rfl rfl ?_ | refine fp2 (.inl rfl) rfl rfl rfl ?_ | refine fp3 (.inl rfl) rfl rfl rfl rfl ?_ | refine fp0 (.inr rfl) rfl ?_ | refine fp0 (.inl rfl) rfl ?_ | refine fp1 (.inr rfl) rfl rfl ?_); refine ⟨?_, by (first | exact Frm.refl _ | assumption | exact Go.Sv.Sep.frm (by assumption) | (refine Frm.trans ?_ (by assumption); first | exact Frm.refl _ | assumption))⟩; (try simp only [realB, rv_true, Nat.reduceBEq, cond_true, cond_false, entG, real_lif, updGL])
      rw [voidR, decide_eq_true]
      rw [← hc, ← hx]; exact List.getElem_mem hlt
    · refine sgo ?_
      refine ⟨i + 1, ⟨rfl, rfl, rfl, rfl, trivial⟩, ⟨hlt, fun j hj' hji => ?_, rfl⟩, (by (try dsimp only); omega)⟩
      rcases Nat.lt_or_ge j i with h | h
      · exact hj j hj' h
      · obtain rfl : j = i := by omega
        rw [hx]; exact hc
  · refine sgo ?_
    (first | refine fp1 (.inl rfl) rfl rfl ?_ | refine fp2 (.inl rfl) rfl rfl rfl ?_ | refine fp3 (.inl rfl) rfl rfl rfl rfl ?_ | refine fp0 (.inr rfl) rfl ?_ | refine fp0 (.inl rfl) rfl ?_ | refine fp1 (.inr rfl) rfl rfl ?_); refine ⟨?_, by (first | exact Frm.refl _ | assumption | exact Go.Sv.Sep.frm (by assumption) | (refine Frm.trans ?_ (by assumption); first | exact Frm.refl _ | assumption))⟩; (try simp only [realB, rv_true, Nat.reduceBEq, cond_true, cond_false, entG, real_lif, updGL])
    rw [voidR, decide_eq_false]
    exact mem_at fun j hj' => hj j hj' (by omega)
end Go.Proofs.YtcdogceabkpnmaaDoor

/-
  Packages event and sieveref18: which events may be.
-/
set_option linter.unusedSimpArgs false
set_option linter.unusedVariables false
set_option linter.unnecessarySimpa false
namespace Go.Sv
open Go Go.RowKit
section
variable {P : Program} {n : Nat} {ds : Ctx} {ops : Array Oper} {Q : Exit → Ctx → Env → World → Prop} {rest : List Oper} {σ : GE} {w : World} {d : Nat} {ty t : TypeId} {pos : String} {af : Array Edge} {zv : Value} {size bytes : Nat} {j dj : Nat} {want b c : Bool}
theorem bm2 {σ : Env} {x y : Operand} {v u : Value} {i k : Nat} (h : evl σ x = v) (h2 : evl σ y = u) : [(i, x), (k, y)].map (fun p => (p.1, evl σ p.2)) = [(i, v), (k, u)] := by simp [h, h2]
theorem bm3 {σ : Env} {x y z : Operand} {v u r : Value} {i k m : Nat} (h : evl σ x = v) (h2 : evl σ y = u) (h3 : evl σ z = r) : [(i, x), (k, y), (m, z)].map (fun p => (p.1, evl σ p.2)) = [(i, v), (k, u), (m, r)] := by simp [h, h2, h3]
/-- a guarded literal of a struct -/
theorem wlgbuildv {pl : List (Nat × Nat)} {ps : List (Nat × Operand)} {vals : List (Nat × Value)} {cells : List Value} [hf : Flds P t pl] [hi : Inf P t zv size bytes]
    (hv : (b && (c == want)) = true → ps.map (fun p => (p.1, evl (real σ) p.2)) = vals)
    (h : WL P n ds ops Q rest (real (updG σ d ⟨.agg cells.toArray, b && (c == want)⟩)) w)
    (hc : fillL pl zv.cells.toList vals = some cells := by
      simp [Go.Sv.fillL, Go.Sv.setSeg, Go.Value.cells]
      first | done | rfl)
    (hj : (ops[j]?).bind (·.dst) = some dj := by rfl) (hσ : σ dj = ⟨.bool c, b⟩ := by rfl) :
    WL P n ds ops Q (⟨some d, .build t ps.toArray, ty, pos, af, some (j, want)⟩ :: rest) (real σ) w :=
  wlg h hj hσ fun hg => y_build (by rw [hv hg]; exact hc)
end
end Go.Sv
namespace Go.Proofs.YtcdogceabkpnmaaDoor
open Go Go.Sv Go.RowKit

/-- may an event be? -/
def evR (e : Ev) : Bool :=
  if e.kind = 0 then !decide (e.text = []) && validR e.text && decide (e.name = []) && decide (e.attrs.length = 0)
  else if e.kind = 1 then decide (e.text = []) && mayR e.start && !voidR e.name
  else if e.kind = 3 then decide (e.text = []) && mayR e.start && voidR e.name
  else if e.kind = 2 then decide (e.text = []) && decide (e.attrs.length = 0) && mayR e.close
  else false











































































































set_option maxHeartbeats 4000000 in
theorem refEvCheck_ok (e : Ev) (p : Option Addr) (c : Nat) (hs : e.small) (w : World) (hi : Im [] w p (e.attrs.flatMap At.cells)) :
    PureC Tryd.prog 81 #[.agg ⟨e.cells p c⟩] w (.bool (evR e)) := by
  have hev : evR e = evR e := rfl
  obtain ⟨k, nm, tx, es⟩ := e
  have htx := hs.text
  dsimp only at htx hi
  conv at hev => lhs; unfold evR
  dsimp only at hev
  refine enter (l := [.agg ⟨Ev.cells ⟨k, nm, tx, es⟩ p c⟩]) Tryd.func81 rfl Tryd.ntmps81 (by kernel_rfl) rfl ?_
  have hS := Sep.start w
  refine sgo ?_
  refine sbox (v := .agg ⟨Ev.cells ⟨k, nm, tx, es⟩ p c⟩) hS fun b w1 hS => ?_
  replace hS : Sep w w1 [pOwn b [int k, str nm, str tx, .slice p es.length c]] := hS
  refine sgo ?_
  (show WC _ _ _ _ _ _ _; first | refine WC_dec rfl (fun hc => ?_) (fun hc => ?_) | refine WC_cond rfl (fun hc => ?_) (fun hc => ?_))
  · replace hc : k = 0 := hc
    subst hc
    refine sgo ?_
    refine wls2bg (s := tx) (by omega) fun q cc w2 hI hf2 => ?_
    refine wlcallgp (vals := [.slice (pb q) tx.length cc]) (fun hg => refValid_ok tx (pb q) tx.length cc rfl (hI hg).1 (by omega) w2 (hI hg).2.2) fun w3 hf3 => ?_
    replace hS := (hS.grow hf2).grow hf3
    refine sgo ?_
    (first | refine fp1 (.inl rfl) rfl rfl ?_ | refine fp2 (.inl rfl) rfl rfl rfl ?_ | refine fp3 (.inl rfl) rfl rfl rfl rfl ?_ | refine fp0 (.inr rfl) rfl ?_ | refine fp0 (.inl rfl) rfl ?_ | refine fp1 (.inr rfl) rfl rfl ?_); refine ⟨?_, by (first | exact Frm.refl _ | assumption | exact Go.Sv.Sep.frm (by assumption) | (refine Frm.trans ?_ (by assumption); first | exact Frm.refl _ | assumption))⟩; (try simp only [realB, rv_true, Nat.reduceBEq, cond_true, cond_false, entG, real_lif, updGL])
    congr 1
    rw [← hev, if_pos rfl]; simp [pkb_and]
  replace hc : ¬ k = 0 := hc
  rw [if_neg hc] at hev
  have hk0 := hc
  clear hc
  refine sgo ?_
  by_cases hk1 : k = 1
  · subst hk1
    refine sgo ?_
    refine wcdraw ?_
    refine qgo ?_
    refine qlg (v := .agg ⟨Tok.cells (Ev.start ⟨1, nm, tx, es⟩) p c⟩) ?_ rfl rfl (fun hg => YQ.ofY fun _ _ => y_build (cells := Tok.cells (Ev.start ⟨1, nm, tx, es⟩) p c) (by rw [bm3 (v := int 1) rfl (evG hg) (evG hg)]; simp [fillL, setSeg, Value.cells]; rfl))
    refine qlcallgp (vals := [.agg ⟨Tok.cells (Ev.start ⟨1, nm, tx, es⟩) p c⟩]) (v := .bool (mayR (Ev.start ⟨1, nm, tx, es⟩))) (fun hg w' hw' => may_ok (Ev.start ⟨1, nm, tx, es⟩) p c (Ev.start_small hs) w' ((hi.sep hS).frm hw')) ?_
    refine qgo ?_
    refine qlcallgp (vals := [str nm, int 0]) (v := .bool (voidR nm)) (fun hg w' hw' => refIn0_ok nm w') ?_
    refine qgo ?_
    refine QL_nil ?_
    intro wd hwd
    replace hS := hS.grow hwd
    refine sgo ?_
    (first | refine fp1 (.inl rfl) rfl rfl ?_ | refine fp2 (.inl rfl) rfl rfl rfl ?_ | refine fp3 (.inl rfl) rfl rfl rfl rfl ?_ | refine fp0 (.inr rfl) rfl ?_ | refine fp0 (.inl rfl) rfl ?_ | refine fp1 (.inr rfl) rfl rfl ?_); refine ⟨?_, by (first | exact Frm.refl _ | assumption | exact Go.Sv.Sep.frm (by assumption) | (refine Frm.trans ?_ (by assumption); first | exact Frm.refl _ | assumption))⟩; (try simp only [realB, rv_true, Nat.reduceBEq, cond_true, cond_false, entG, real_lif, updGL])
    congr 1
    rw [← hev, if_pos rfl]; cases mayR (Ev.start ⟨1, nm, tx, es⟩) <;> cases voidR nm <;> simp [pkb_and]
  rw [if_neg hk1] at hev
  refine wcno ?_ (ht := decide_eq_false hk1)
  refine sgo ?_
  (show WC _ _ _ _ _ _ _; first | refine WC_dec rfl (fun hc => ?_) (fun hc => ?_) | refine WC_cond rfl (fun hc => ?_) (fun hc => ?_))
  · replace hc : k = 3 := hc
    subst hc
    refine sgo ?_
    refine wcdraw ?_
    refine qgo ?_
    refine qlg (v := .agg ⟨Tok.cells (Ev.start ⟨3, nm, tx, es⟩) p c⟩) ?_ rfl rfl (fun hg => YQ.ofY fun _ _ => y_build (cells := Tok.cells (Ev.start ⟨3, nm, tx, es⟩) p c) (by rw [bm3 (v := int 1) rfl (evG hg) (evG hg)]; simp [fillL, setSeg, Value.cells]; rfl))
    refine qlcallgp (vals := [.agg ⟨Tok.cells (Ev.start ⟨3, nm, tx, es⟩) p c⟩]) (v := .bool (mayR (Ev.start ⟨3, nm, tx, es⟩))) (fun hg w' hw' => may_ok (Ev.start ⟨3, nm, tx, es⟩) p c (Ev.start_small hs) w' ((hi.sep hS).frm hw')) ?_
    refine qgo ?_
    refine qlcallgp (vals := [str nm, int 0]) (v := .bool (voidR nm)) (fun hg w' hw' => refIn0_ok nm w') ?_
    refine qgo ?_
    refine QL_nil ?_
    intro wd hwd
    replace hS := hS.grow hwd
    refine sgo ?_
    (first | refine fp1 (.inl rfl) rfl rfl ?_ | refine fp2 (.inl rfl) rfl rfl rfl ?_ | refine fp3 (.inl rfl) rfl rfl rfl rfl ?_ | refine fp0 (.inr rfl) rfl ?_ | refine fp0 (.inl rfl) rfl ?_ | refine fp1 (.inr rfl) rfl rfl ?_); refine ⟨?_, by (first | exact Frm.refl _ | assumption | exact Go.Sv.Sep.frm (by assumption) | (refine Frm.trans ?_ (by assumption); first | exact Frm.refl _ | assumption))⟩; (try simp only [realB, rv_true, Nat.reduceBEq, cond_true, cond_false, entG, real_lif, updGL])
    congr 1
    rw [← hev, if_pos rfl]; cases mayR (Ev.start ⟨3, nm, tx, es⟩) <;> cases voidR nm <;> simp [pkb_and]
  replace hc : ¬ k = 3 := hc
  rw [if_neg hc] at hev
  have hk3 := hc
  clear hc
  refine sgo ?_
  (show WC _ _ _ _ _ _ _; first | refine WC_dec rfl (fun hc => ?_) (fun hc => ?_) | refine WC_cond rfl (fun hc => ?_) (fun hc => ?_))
  · replace hc : k = 2 := hc
    subst hc
    refine sgo ?_
    refine wlgbuildv (vals := [(0, int 2), (1, str nm)]) (fun hg => bm2 rfl (evG hg)) ?_
    refine wlcallgp (vals := [.agg ⟨Tok.cells (Ev.close ⟨2, nm, tx, es⟩) none 0⟩]) (fun hg => may_ok (Ev.close ⟨2, nm, tx, es⟩) none 0 (Ev.close_small hs) w1 (Im.nil _ _ _)) fun w3 hf3 => ?_
    replace hS := hS.grow hf3
    refine sgo ?_
    (first | refine fp1 (.inl rfl) rfl rfl ?_ | refine fp2 (.inl rfl) rfl rfl rfl ?_ | refine fp3 (.inl rfl) rfl rfl rfl rfl ?_ | refine fp0 (.inr rfl) rfl ?_ | refine fp0 (.inl rfl) rfl ?_ | refine fp1 (.inr rfl) rfl rfl ?_); refine ⟨?_, by (first | exact Frm.refl _ | assumption | exact Go.Sv.Sep.frm (by assumption) | (refine Frm.trans ?_ (by assumption); first | exact Frm.refl _ | assumption))⟩; (try simp only [realB, rv_true, Nat.reduceBEq, cond_true, cond_false, entG, real_lif, updGL])
    congr 1
    rw [← hev, if_pos rfl]; cases mayR (Ev.close ⟨2, nm, tx, es⟩) <;> simp [pkb_and]
  · replace hc : ¬ k = 2 := hc
    rw [if_neg hc] at hev
    rw [← hev]
    refine sgo ?_
    (first | refine fp1 (.inl rfl) rfl rfl ?_ | refine fp2 (.inl rfl) rfl rfl rfl ?_ | refine fp3 (.inl rfl) rfl rfl rfl rfl ?_ | refine fp0 (.inr rfl) rfl ?_ | refine fp0 (.inl rfl) rfl ?_ | refine fp1 (.inr rfl) rfl rfl ?_); refine ⟨?_, by (first | exact Frm.refl _ | assumption | exact Go.Sv.Sep.frm (by assumption) | (refine Frm.trans ?_ (by assumption); first | exact Frm.refl _ | assumption))⟩; (try simp only [realB, rv_true, Nat.reduceBEq, cond_true, cond_false, entG, real_lif, updGL])
end Go.Proofs.YtcdogceabkpnmaaDoor

/-
  How events nest: the plain part; the stack of names.
-/
set_option linter.unusedSimpArgs false
set_option linter.unusedVariables false
set_option linter.unnecessarySimpa false
namespace Go.Sv
open Go Go.RowKit
/-- a cut behind a piece of code -/
theorem wcutt {P : Program} {n : Nat} {ds : Ctx} {K : Ctx → Env → World → Prop} {Q : Exit → Ctx → Env → World → Prop} {σ : Env} {w : World} {a : Code} {X : Type} (sl : X → List (Nat × Value)) (I : X → World → Prop)
    (ha : WC P n ds a (thl ds (fun σ w => ∃ x, Has σ (sl x) ∧ I x w) Q) σ w) (hb : ∀ x w (ρ : GE), I x w → K ds (real (updGL ρ (sl x))) w) : WC P n ds a (thn K Q) σ w := by
  refine WC_mono ha ?_
  intro e c' σ' w' h
  unfold thl at h
  unfold thn
  cases e <;> try exact h
  obtain ⟨rfl, x, h1, h2⟩ := h
  have := hb x w' (lif σ') h2
  rw [← real_updL, updL_has h1] at this
  exact this
/-- two worlds that agree on the first B blocks -/
structure Same (B : Nat) (w w' : World) : Prop where
  os : w'.os = w.os
  tape : w'.tape = w.tape
  output : w'.output = w.output
  size : B ≤ w'.heap.size
  block : ∀ k, k < B → w'.heap[k]? = w.heap[k]?
theorem Same.of_frm {w0 w w' : World} (h : Frm w0 w) (h' : Frm w0 w') : Same w0.heap.size w w' := ⟨h'.os.trans h.os.symm, h'.tape.trans h.tape.symm, h'.output.trans h.output.symm, h'.size, fun k hk => (h'.block k hk).trans (h.block k hk).symm⟩
theorem Same.frm {w w1 w2 : World} (h : Frm w w1) (h' : Same w.heap.size w1 w2) : Frm w w2 := ⟨h'.os.trans h.os, h'.tape.trans h.tape, h'.output.trans h.output, h'.size, fun k hk => (h'.block k hk).trans (h.block k hk)⟩
theorem Same.of_sep {w0 w w' : World} {cs ds : List Plot} (h : Sep w0 w cs) (h' : Sep w0 w' ds) : Same w0.heap.size w w' := Same.of_frm h.frm h'.frm
theorem Own.same {B : Nat} {w w' : World} {b : Nat} {l : List Value} (h : Own w b l) (hs : Same B w w') (hb : b < B) : Own w' b l := h.of_block (hs.block b hb)
/-- what was there before has been written: the pieces stay -/
theorem Sep.rebase {w0 w w' : World} {cs : List Plot} {N : List Nat} (h : Sep w0 w cs) (hl : Le N w w') (hN : ∀ x ∈ N, x < w0.heap.size) : ∃ w1 : World, w1.heap.size = w0.heap.size ∧ Sep w1 w' cs := by
  have hsz : w0.heap.size ≤ w'.heap.size := Nat.le_trans h.frm.size hl.size
  refine ⟨{ w' with heap := w'.heap.extract 0 w0.heap.size }, by simp; omega, ⟨⟨rfl, rfl, rfl, by simp; omega, fun k hk => ?_⟩, fun c hc => ?_, fun c hc x hx => ?_, h.apart⟩⟩
  · simp at hk
    simp [Array.getElem?_extract, Nat.sub_zero]
    intro h1
    omega
  · refine c.loc w w' (h.ok c hc) fun x hx => hl.block x (h.lt hc x hx) fun hm => ?_
    have := hN x hm
    have := h.low c hc x hx
    omega
  · have := h.low c hc x hx
    simp
    omega
end Go.Sv
namespace Go.Proofs.YtcdogceabkpnmaaDoor
open Go Go.Sv Go.RowKit

/-! ## The plain part -/
structure Lk where
  stack : List (List UInt8)
  most : Nat
  at_ : Nat
  err : Int
  good : Nat
def lkStep (k : Lk) (e : Ev) : Lk :=
  if k.err = 0 then
    if evR e then
      if e.kind = 1 then ⟨k.stack ++ [e.name], max k.most (k.stack.length + 1), 0, 0, k.good + 1⟩
      else if e.kind = 3 then ⟨k.stack, max k.most (k.stack.length + 1), 0, 0, k.good + 1⟩
      else if e.kind = 2 then (if k.stack.getLast? = some e.name then ⟨k.stack.dropLast, k.most, 0, 0, k.good + 1⟩ else { k with at_ := k.good, err := 181 })
      else ⟨k.stack, k.most, 0, 0, k.good + 1⟩
    else { k with at_ := k.good, err := 180 }
  else k
def lk0 : Lk := ⟨[], 0, 0, 0, 0⟩
/-- how events nest -/
def lkR (l : List Ev) : Lk := l.foldl lkStep lk0
theorem lk_bad {k : Lk} (h : k.err ≠ 0) (l : List Ev) : l.foldl lkStep k = k := by
  induction l with
  | nil => rfl
  | cons e l ih => rw [List.foldl_cons, lkStep, if_neg h, ih]
theorem lk_take {l : List Ev} {i : Nat} {e : Ev} (h : l[i]? = some e) : lkR (l.take (i + 1)) = lkStep (lkR (l.take i)) e := by
  rw [List.take_add_one, h, lkR, List.foldl_append]; rfl
theorem lk_split (l : List Ev) (i : Nat) : lkR l = (l.drop i).foldl lkStep (lkR (l.take i)) := by
  conv => lhs; rw [← List.take_append_drop i l, lkR, List.foldl_append]
  rfl
theorem lk_stop {l : List Ev} {i : Nat} (h : (lkR (l.take i)).err ≠ 0) : lkR l = lkR (l.take i) := by rw [lk_split l i, lk_bad h]
theorem lk_ok {l : List Ev} (h : (lkR l).err = 0) : (lkR l).at_ = 0 ∧ (lkR l).good = l.length ∧ (lkR l).stack.length ≤ l.length ∧ (lkR l).most ≤ l.length := by
  have key : ∀ (l : List Ev) (k : Lk), (l.foldl lkStep k).err = 0 → k.at_ = 0 → (l.foldl lkStep k).at_ = 0 ∧ (l.foldl lkStep k).good = k.good + l.length ∧ (l.foldl lkStep k).stack.length ≤ k.stack.length + l.length ∧ (l.foldl lkStep k).most ≤ max k.most k.stack.length + l.length := by
    intro l
    induction l with
    | nil => intro k h1 h2; exact ⟨h2, rfl, Nat.le_refl _, by simp [Nat.le_max_left]⟩
    | cons e l ih =>
      intro k h1 h2
      rw [List.foldl_cons] at h1 ⊢
      have hk : (lkStep k e).err = 0 := by
        apply Decidable.byContradiction
        intro hne
        rw [lk_bad hne] at h1
        exact hne h1
      have hs : (lkStep k e).at_ = 0 ∧ (lkStep k e).good = k.good + 1 ∧ (lkStep k e).stack.length ≤ k.stack.length + 1 ∧ (lkStep k e).most ≤ max k.most k.stack.length + 1 ∧ max (lkStep k e).most (lkStep k e).stack.length ≤ max k.most k.stack.length + 1 := by
        revert hk
        unfold lkStep
        split <;> (try split) <;> (try split) <;> (try split) <;> (try split) <;> (try split) <;> intro hk <;> simp at hk ⊢ <;> omega
      obtain ⟨g1, g2, g3, g4⟩ := ih _ h1 hs.1
      refine ⟨g1, by rw [g2, hs.2.1, List.length_cons]; omega, by rw [List.length_cons]; omega, by rw [List.length_cons]; omega⟩
  have := key l lk0 h rfl
  simpa [lkR, lk0] using this
/-! ## A stack of names in memory -/
/-- a stack: where it lies, and its names -/
def pStk (b : Nat) (p : Option Addr) (c : Nat) (st : List (List UInt8)) : List Plot := [pOwn b [.slice p st.length c], pRow 1 p st.length c (strs st)]

































































end Go.Proofs.YtcdogceabkpnmaaDoor

/-
  Package event: walk.
-/
set_option linter.unusedSimpArgs false
set_option linter.unusedVariables false
set_option linter.unnecessarySimpa false
namespace Go.Proofs.YtcdogceabkpnmaaDoor
open Go Go.Sv Go.RowKit

/-- the events alone -/
def evs (ms : List EvM) : List Ev := ms.map EvM.e
theorem evs_len (ms : List EvM) : (evs ms).length = ms.length := by simp [evs]
theorem evs_at {ms : List EvM} {i : Nat} {m : EvM} (h : ms[i]? = some m) : (evs ms)[i]? = some m.e := by simp [evs, h]
/-- how the first i nest -/
def lkI (ms : List EvM) (i : Nat) : Lk := lkR ((evs ms).take i)
theorem lkI_succ {ms : List EvM} {i : Nat} {m : EvM} (h : ms[i]? = some m) : lkI ms (i + 1) = lkStep (lkI ms i) m.e := lk_take (evs_at h)
theorem lkI_ok {ms : List EvM} {i : Nat} (hi : i ≤ ms.length) (h : (lkI ms i).err = 0) : (lkI ms i).at_ = 0 ∧ (lkI ms i).good = i ∧ (lkI ms i).stack.length ≤ i ∧ (lkI ms i).most ≤ i := by
  have := lk_ok h
  rw [List.length_take, evs_len, Nat.min_eq_left hi] at this
  exact this
theorem lkI_stop {ms : List EvM} {i : Nat} (h : (lkI ms i).err ≠ 0) : lkR (evs ms) = lkI ms i := lk_stop h
theorem lkI_all (ms : List EvM) : lkI ms ms.length = lkR (evs ms) := by rw [lkI, ← evs_len, List.take_length]































































































































































































end Go.Proofs.YtcdogceabkpnmaaDoor

/-
  Package event: Nested, Open, Depth.
-/
set_option linter.unusedSimpArgs false
set_option linter.unusedVariables false
set_option linter.unnecessarySimpa false
namespace Go.Proofs.YtcdogceabkpnmaaDoor
open Go Go.Sv Go.RowKit


















































def mostR (m d : Nat) (k : Int) : Nat := if k = 1 ∨ k = 3 then max m (d + 1) else m




























end Go.Proofs.YtcdogceabkpnmaaDoor

/-
  Events folded into trees: the plain part.
-/
set_option linter.unusedSimpArgs false
set_option linter.unusedVariables false
set_option linter.unnecessarySimpa false
namespace Go.Proofs.YtcdogceabkpnmaaDoor
open Go Go.Sv Go.RowKit

structure Nd where
  name : List UInt8
  text : List UInt8
  attrs : List At
  kids : Fo
def Fo.list : Fo → List Nd
  | .nil => []
  | .cons n t es ks r => ⟨n, t, es, ks⟩ :: r.list
def Fo.of : List Nd → Fo
  | [] => .nil
  | m :: l => .cons m.name m.text m.attrs m.kids (of l)
theorem Fo.list_of (l : List Nd) : (Fo.of l).list = l := by
  induction l with
  | nil => rfl
  | cons m l ih => simp only [of, list, ih]
def dNd (m : Nd) : Nat := if m.name = [] then 0 else 1 + m.kids.depth
def dN : List Nd → Nat
  | [] => 0
  | m :: l => max (dNd m) (dN l)
theorem dN_of (l : List Nd) : (Fo.of l).depth = dN l := by
  induction l with
  | nil => rfl
  | cons m l ih => simp only [Fo.of, Fo.depth, dN, dNd, ih]
theorem dN_snoc (l : List Nd) (m : Nd) : dN (l ++ [m]) = max (dN l) (dNd m) := by
  induction l with
  | nil => simp [dN]
  | cons x l ih => simp only [List.cons_append, dN, ih]; omega
/-- a text behind others -/
def pushT (out : List Nd) (t : List UInt8) : List Nd :=
  match out.getLast? with
  | some m => if m.name = [] then out.dropLast ++ [{ m with text := m.text ++ t }] else out ++ [⟨[], t, [], .nil⟩]
  | none => [⟨[], t, [], .nil⟩]
/-! ## as the code goes -/
def foldG : Nat → List Ev → List Nd → List Nd × List Ev
  | 0, l, out => (out, l)
  | _ + 1, [], out => (out, [])
  | k + 1, e :: l, out =>
    if e.kind = 0 then foldG k l (pushT out e.text)
    else if e.kind = 3 then foldG k l (out ++ [⟨e.name, [], e.attrs, .nil⟩])
    else if e.kind = 1 then foldG k (foldG k l []).2 (out ++ [⟨e.name, [], e.attrs, .of (foldG k l []).1⟩])
    else (out, l)
/-- the nodes that events build, up to where they are closed, behind others; the rest -/
def foldF (l : List Ev) (out : List Nd) : List Nd × List Ev := foldG l.length l out
/-! ## as a stack goes -/
structure Fr where
  name : List UInt8
  attrs : List At
  out : List Nd
structure Mc where
  out : List Nd
  stk : List Fr
def mcStep (s : Mc) (e : Ev) : Mc :=
  if e.kind = 0 then { s with out := pushT s.out e.text }
  else if e.kind = 3 then { s with out := s.out ++ [⟨e.name, [], e.attrs, .nil⟩] }
  else if e.kind = 1 then ⟨[], ⟨e.name, e.attrs, s.out⟩ :: s.stk⟩
  else match s.stk with
    | f :: fs => ⟨f.out ++ [⟨f.name, [], f.attrs, .of s.out⟩], fs⟩
    | [] => s
def mcR (s : Mc) (l : List Ev) : Mc := l.foldl mcStep s
/-- how much higher -/
def hEv (e : Ev) : Int := if e.kind = 0 ∨ e.kind = 3 then 0 else if e.kind = 1 then 1 else -1
def hL (l : List Ev) : Int := (l.map hEv).sum
def lowS (l : List Ev) : Prop := ∀ s, s <:+ l → hL s ≤ 0
end Go.Proofs.YtcdogceabkpnmaaDoor

/-
  Loops over functions, with memory in pieces.
-/
set_option linter.unusedSimpArgs false
set_option linter.unusedVariables false
set_option linter.unnecessarySimpa false
namespace Go.Sv
open Go Go.RowKit
def pLoop (l : Nat) (r : Loop) : Plot where
  foot := [l]
  ok w := LoopAt w l r
  view := (none, [])
  loc _ _ h hb := (hb l (by simp)).trans h
  lt _ h x hx := by rw [List.mem_singleton.1 hx]; exact h.lt
  sg _ _ := .inl rfl
def pDef (D : Nat) : Plot where
  foot := [D]
  ok w := NoDef w D
  view := (none, [])
  loc _ _ h hb := (hb D (by simp)).trans h
  lt _ h x hx := by rw [List.mem_singleton.1 hx]; exact h.lt
  sg _ _ := .inl rfl
section
variable {w0 w w' : World} {cs : List Plot} {l D i : Nat} {r r' : Loop}
theorem Sep.loop (h : Sep w0 w cs) (hf : Frm w w') (hL : LoopAt w' l r) (hN : NoDef w' D) (hl : w.heap.size ≤ l) (hD : w.heap.size ≤ D) (hne : l ≠ D) : Sep w0 w' (pLoop l r :: pDef D :: cs) := by
  refine h.seq (ds := [pLoop l r, pDef D]) ⟨hf, ?_, ?_, ?_⟩
  · intro c hc
    rcases List.mem_cons.1 hc with rfl | hc
    · exact hL
    · rw [List.mem_singleton.1 hc]; exact hN
  · intro c hc x hx
    rcases List.mem_cons.1 hc with rfl | hc
    · rw [List.mem_singleton.1 hx]; exact hl
    · rw [List.mem_singleton.1 hc] at hx; rw [List.mem_singleton.1 hx]; exact hD
  · rw [List.pairwise_cons]
    refine ⟨fun b hb x hx hx' => ?_, List.pairwise_singleton _ _⟩
    rw [List.mem_singleton.1 hb] at hx'
    rw [List.mem_singleton.1 hx] at hx'
    exact hne (List.mem_singleton.1 hx')
theorem Sep.loopAt (h : Sep w0 w cs) (i : Nat) (hi : cs[i]? = some (pLoop l r)) : LoopAt w l r := h.at (c := pLoop l r) i hi
theorem Sep.noDef (h : Sep w0 w cs) (i : Nat) (hi : cs[i]? = some (pDef D)) : NoDef w D := h.at (c := pDef D) i hi
theorem Sep.turnLoop (h : Sep w0 w cs) (i : Nat) (hi : cs[i]? = some (pLoop l r)) (hl : Le [l] w w') (hL : LoopAt w' l r') : Sep w0 w' (cs.set i (pLoop l r')) :=
  h.upd i hi (lm_own hl) hL
/-- a piece that is given away -/
theorem Sep.lose {c : Plot} (h : Sep w0 w (c :: cs)) (hl : Le c.foot w w') : Sep w0 w' cs := by
  have hp := h.apart
  rw [List.pairwise_cons] at hp
  exact h.tail.le hl (fun d hd x hx hm => hp.1 d hd x hm hx) (h.low _ List.mem_cons_self)
theorem Sep.undef (h : Sep w0 w (pDef D :: cs)) : Sep w0 (w.putObj D (.deferred none)) cs := h.lose (le_putObj w D _)
end
end Go.Sv

/-
  Package event: Close; slices.Backward.
-/
set_option linter.unusedSimpArgs false
set_option linter.unusedVariables false
set_option linter.unnecessarySimpa false
namespace Go.Proofs.YtcdogceabkpnmaaDoor
open Go Go.Sv Go.RowKit












































def closeE (n : List UInt8) : Ev := ⟨2, n, [], []⟩
/-- the events that close, in memory -/
def closeM (n : List UInt8) : EvM := ⟨closeE n, none, 0⟩
/-- what Open tells -/
def openS (k : Lk) : List (List UInt8) := if k.err = 0 then k.stack else []
end Go.Proofs.YtcdogceabkpnmaaDoor

/-
  Structs of texts, numbers and bools compared.
-/
set_option linter.unusedSimpArgs false
set_option linter.unusedVariables false
set_option linter.unnecessarySimpa false
namespace Go.Sv
open Go Go.RowKit
def plainB (P : Program) : List Field → Nat → List TypeDesc → Bool
  | [], _, [] => true
  | f :: fs, k, d :: ds => (f.name != "_") && (f.offset == k) && (match P.underlying f.type, d with
    | some .string, .string => true
    | some .bool, .bool => true
    | some (.int a), .int b => kEq a b
    | _, _ => false) && plainB P fs (k + 1) ds
  | _, _, _ => false
/-- a struct whose fields are one cell each: texts, bools, numbers -/
class PlainS (P : Program) (t : TypeId) (ds : outParam (List TypeDesc)) : Prop where
  ok : ∃ fs, P.underlying t = some (.struct fs) ∧ plainB P fs.toList 0 ds = true ∧ P.stoodInHeld t = false ∧ P.eqGuardType P.depth t = false
/-- are two structs the same? -/
def eqL : List TypeDesc → List Value → List Value → Option Bool
  | [], [], [] => some true
  | .string :: ds, .string ⟨⟨a⟩⟩ :: xs, .string ⟨⟨b⟩⟩ :: ys => match eqL ds xs ys with | some r => some (decide (a = b) && r) | none => none
  | .bool :: ds, .bool a :: xs, .bool b :: ys => match eqL ds xs ys with | some r => some (decide (a = b) && r) | none => none
  | .int k :: ds, .int k1 a :: xs, .int k2 b :: ys => match kEq k k1, kEq k k2, eqL ds xs ys with | true, true, some r => some (decide (a = b) && r) | _, _, _ => none
  | _, _, _ => none
section
variable {P : Program} {w : World}
theorem run_part {t : TypeId} {d : TypeDesc} (hu : P.underlying t = some d) (hd : (match d with | .struct _ | .array _ _ => true | _ => false) = false) {cs : Array Value} {off : Nat} {v : Value} (hv : cs[off]? = some v) : (part t cs off).run P w = .ok v w := by
  have hi : (isAgg t).run P w = .ok false w := by
    simp only [isAgg, underlying, Sem.run_bind, run_program, Result.andThen_ok, hu, Sem.run_pure]
    rw [← hd]
    cases d <;> rfl
  simp [part, hi, hv]
theorem str_beq (a b : List UInt8) : ((ByteArray.mk ⟨a⟩).toList == (ByteArray.mk ⟨b⟩).toList) = decide (a = b) := by
  rw [ByteArray.toList_eq, ByteArray.toList_eq]
  exact lbeq a b
theorem eqFields_plain (d : Nat) (X Y : Array Value) : ∀ (fs : List Field) (k : Nat) (ds : List TypeDesc) (xs ys : List Value) (r : Bool), plainB P fs k ds = true → X.toList.drop k = xs → Y.toList.drop k = ys → eqL ds xs ys = some r →
    (Op.eqFields (d + 1) X Y fs).run P w = .ok r w := by
  intro fs
  induction fs with
  | nil =>
    intro k ds xs ys r hp hX hY he
    cases ds with
    | nil =>
      cases xs <;> cases ys <;> simp [eqL] at he
      subst he; rfl
    | cons d ds => simp [plainB] at hp
  | cons f fs ih =>
    intro k ds xs ys r hp hX hY he
    cases ds with
    | nil => simp [plainB] at hp
    | cons d0 ds =>
      simp only [plainB, Bool.and_eq_true] at hp
      obtain ⟨⟨⟨hn, ho⟩, ht⟩, hp⟩ := hp
      have hn' : f.name ≠ "_" := by simpa using hn
      have ho' : f.offset = k := by simpa using ho
      have tailX : ∀ v l, xs = v :: l → X[k]? = some v ∧ X.toList.drop (k + 1) = l := by
        intro v l h
        rw [h] at hX
        have h1 : X.toList[k]? = some v := by
          have := congrArg (·[0]?) hX
          simpa using this
        refine ⟨by simpa using h1, ?_⟩
        have := congrArg (List.drop 1) hX
        simpa [Nat.add_comm] using this
      have tailY : ∀ v l, ys = v :: l → Y[k]? = some v ∧ Y.toList.drop (k + 1) = l := by
        intro v l h
        rw [h] at hY
        have h1 : Y.toList[k]? = some v := by
          have := congrArg (·[0]?) hY
          simpa using this
        refine ⟨by simpa using h1, ?_⟩
        have := congrArg (List.drop 1) hY
        simpa [Nat.add_comm] using this
      simp only [Op.eqFields, if_pos hn', ho']
      unfold eqL at he
      split at he
      · contradiction
      · rename_i ds' a xs' b ys' hq
        injection hq with q1 q2
        subst q1 q2
        obtain ⟨x1, x2⟩ := tailX _ _ rfl
        obtain ⟨y1, y2⟩ := tailY _ _ rfl
        have hu : P.underlying f.type = some .string := by
          revert ht
          cases P.underlying f.type with
          | none => intro h; cases h
          | some u => cases u <;> intro h <;> first | rfl | cases h
        split at he
        · rename_i r' hr'
          obtain rfl := Option.some.inj he
          have := ih (k + 1) _ xs' ys' r' hp x2 y2 hr'
          simp only [Sem.run_bind, run_part hu rfl x1, run_part hu rfl y1, Result.andThen_ok, run_equalIn_string w d f.type _ _ hu, str_beq]
          cases decide (a = b) <;> simp [this]
        · cases he
      · rename_i ds' a xs' b ys' hq
        injection hq with q1 q2
        subst q1 q2
        obtain ⟨x1, x2⟩ := tailX _ _ rfl
        obtain ⟨y1, y2⟩ := tailY _ _ rfl
        have hu : P.underlying f.type = some .bool := by
          revert ht
          cases P.underlying f.type with
          | none => intro h; cases h
          | some u => cases u <;> intro h <;> first | rfl | cases h
        split at he
        · rename_i r' hr'
          obtain rfl := Option.some.inj he
          have := ih (k + 1) _ xs' ys' r' hp x2 y2 hr'
          have hbb : (a == b) = decide (a = b) := by cases a <;> cases b <;> rfl
          simp only [Sem.run_bind, run_part hu rfl x1, run_part hu rfl y1, Result.andThen_ok, run_equalIn_bool' w d f.type _ _ hu, hbb]
          cases decide (a = b) <;> simp [this]
        · cases he
      · rename_i kk ds' k1 a xs' k2 b ys' hq
        injection hq with q1 q2
        subst q1 q2
        obtain ⟨x1, x2⟩ := tailX _ _ rfl
        obtain ⟨y1, y2⟩ := tailY _ _ rfl
        split at he
        · rename_i r' e1 e2 hr'
          obtain rfl := Option.some.inj he
          obtain rfl := kEq_eq e1
          obtain rfl := kEq_eq e2
          have hu : P.underlying f.type = some (.int kk) := by
            revert ht
            cases P.underlying f.type with
            | none => intro h; cases h
            | some u => cases u <;> intro h <;> first | (rw [kEq_eq h]) | cases h
          have := ih (k + 1) _ xs' ys' r' hp x2 y2 hr'
          have hbb : (a == b) = decide (a = b) := by by_cases e : a = b <;> simp [e]
          simp only [Sem.run_bind, run_part hu rfl x1, run_part hu rfl y1, Result.andThen_ok, run_equalIn_int w d f.type _ _ _ _ hu, hbb]
          cases decide (a = b) <;> simp [this]
        · cases he
      · cases he
variable {σ : Env} {d : Option Tmp} {ty t t' : TypeId} {pos : String} {af : Array Edge} {g : Option (Nat × Bool)} {x y : Operand} {ds : List TypeDesc} {xs ys : List Value} {r : Bool}
theorem run_eqS [h : PlainS P t ds] (he : eqL ds xs ys = some r) (k : Nat) : (Op.equalIn (k + 2) t (.agg ⟨xs⟩) (.agg ⟨ys⟩)).run P w = .ok r w := by
  obtain ⟨fs, h1, h2, h3, _⟩ := h.ok
  have hf : P.fieldsOf t = fs := by simp [Program.fieldsOf, h1]
  rw [run_equalIn_struct w (k + 1) t _ _ (by rw [hf]; exact h1) h3, hf]
  exact eqFields_plain k ⟨xs⟩ ⟨ys⟩ fs.toList 0 ds xs ys r h2 rfl rfl he
theorem y_aneq [h : PlainS P t ds] (hx : evl σ x = .agg ⟨xs⟩) (hy : evl σ y = .agg ⟨ys⟩) (he : eqL ds xs ys = some r) : Y P σ ⟨d, .binOp .neq t x y t', ty, pos, af, g⟩ w (.bool (!r)) w := by
  obtain ⟨fs, h1, h2, h3, h4⟩ := h.ok
  refine Y.val ?_
  simp only [execOp, hx, hy, Sem.run_bind, run_eqGuard_agg w .neq t x y _ _ h4, Result.andThen_ok, run_neq_struct]
  rw [show (10000 : Nat) = 9998 + 2 from rfl, run_eqS he]
  rfl
end
end Go.Sv

/- This seat's plain structs as instances (made by a program of ours). -/
namespace Go.Proofs.YtcdogceabkpnmaaDoor
open Go Go.Sv
instance : PlainS Tryd.prog 52 [.string, .string] := ⟨_, Tryd.underlying52, by kernel_rfl, by kernel_rfl, by kernel_rfl⟩
instance : PlainS Tryd.prog 53 [.string, .string] := ⟨_, Tryd.underlying53, by kernel_rfl, by kernel_rfl, by kernel_rfl⟩
instance : PlainS Tryd.prog 100 [.string, .bool] := ⟨_, Tryd.underlying100, by kernel_rfl, by kernel_rfl, by kernel_rfl⟩
instance : PlainS Tryd.prog 101 [.string, .bool] := ⟨_, Tryd.underlying101, by kernel_rfl, by kernel_rfl, by kernel_rfl⟩
instance : PlainS Tryd.prog 114 [.int .i32, .int .i64, .int .i64, .bool] := ⟨_, Tryd.underlying114, by kernel_rfl, by kernel_rfl, by kernel_rfl⟩
instance : PlainS Tryd.prog 115 [.int .i32, .int .i64, .int .i64, .bool] := ⟨_, Tryd.underlying115, by kernel_rfl, by kernel_rfl, by kernel_rfl⟩
instance : PlainS Tryd.prog 123 [.int .i64, .int .i64, .int .i64] := ⟨_, Tryd.underlying123, by kernel_rfl, by kernel_rfl, by kernel_rfl⟩
instance : PlainS Tryd.prog 124 [.int .i64, .int .i64, .int .i64] := ⟨_, Tryd.underlying124, by kernel_rfl, by kernel_rfl, by kernel_rfl⟩
instance : PlainS Tryd.prog 146 [.string, .string, .bool, .bool] := ⟨_, Tryd.underlying146, by kernel_rfl, by kernel_rfl, by kernel_rfl⟩
instance : PlainS Tryd.prog 147 [.string, .string, .bool, .bool] := ⟨_, Tryd.underlying147, by kernel_rfl, by kernel_rfl, by kernel_rfl⟩
end Go.Proofs.YtcdogceabkpnmaaDoor

/-
  sieveref18: Same, Equal, Ends; sievelaw18: own, same.
-/
set_option linter.unusedSimpArgs false
set_option linter.unusedVariables false
set_option linter.unnecessarySimpa false
namespace Go.Proofs.YtcdogceabkpnmaaDoor
open Go Go.Sv Go.RowKit

theorem att_at {es : List At} {i : Nat} {x : At} (h : es[i]? = some x) : ((es.flatMap At.cells).drop (i * 2)).take 2 = x.cells := fm_seg At.len es h













































































































































































































































































end Go.Proofs.YtcdogceabkpnmaaDoor

/-
  sievelaw18: own; event: copied.
-/
set_option linter.unusedSimpArgs false
set_option linter.unusedVariables false
set_option linter.unnecessarySimpa false
namespace Go.Proofs.YtcdogceabkpnmaaDoor
open Go Go.Sv Go.RowKit

theorem att_one (es : List At) : ∀ u ∈ es.flatMap At.cells, u.oneCell' = true := by
  intro u hu
  obtain ⟨x, _, hx⟩ := List.mem_flatMap.1 hu
  simp only [At.cells, List.mem_cons, List.not_mem_nil, or_false] at hx
  rcases hx with rfl | rfl <;> rfl
theorem evs_flat (ns : List EvM) (m : EvM) : ns.flatMap EvM.cells ++ m.cells = (ns ++ [m]).flatMap EvM.cells := by simp
theorem evs_snoc (ns : List EvM) (m : EvM) : evs (ns ++ [m]) = evs ns ++ [m.e] := by simp [evs]































































end Go.Proofs.YtcdogceabkpnmaaDoor

/-
  sievelaw18: awake, EventNames.
-/
set_option linter.unusedSimpArgs false
set_option linter.unusedVariables false
set_option linter.unnecessarySimpa false
namespace Go.Proofs.YtcdogceabkpnmaaDoor
open Go Go.Sv Go.RowKit





def ex1 : List EvM := [⟨⟨1, [98], [], []⟩, none, 0⟩, ⟨⟨2, [105], [], []⟩, none, 0⟩]
def ex2 : List EvM := [⟨⟨3, [98, 114], [], []⟩, none, 0⟩]
end Go.Proofs.YtcdogceabkpnmaaDoor

/-
  Regions that draw their order, whatever they make: by a plan that says of each operation what it yields, makes and takes.
-/
set_option linter.unusedSimpArgs false
set_option linter.unusedVariables false
set_option linter.unnecessarySimpa false
namespace Go.Sv
open Go Go.RowKit

theorem Sep.perm {w0 w : World} {cs ds : List Plot} (h : Sep w0 w cs) (hp : cs.Perm ds) : Sep w0 w ds :=
  ⟨h.frm, fun c hc => h.ok c (hp.mem_iff.2 hc), fun c hc => h.low c (hp.mem_iff.2 hc), hp.pairwise h.apart fun h x hx hx' => h x hx' hx⟩
theorem filter_insert {α : Type} [DecidableEq α] {k : α} {q : α → Bool} (hq : q k = false) : ∀ {l : List α}, l.Nodup → k ∈ l → (l.filter fun j => decide (j = k) || q j).Perm (k :: l.filter q)
  | [], _, h => by cases h
  | x :: l, hn, hm => by
    rw [List.nodup_cons] at hn
    by_cases e : x = k
    · subst e
      have hrest : l.filter (fun j => decide (j = x) || q j) = l.filter q := by
        refine List.filter_congr fun j hj => ?_
        have : j ≠ x := fun h => hn.1 (h ▸ hj)
        simp [this]
      simp only [List.filter_cons, decide_true, Bool.true_or, if_true, hq, Bool.false_eq_true, if_false, hrest]
      exact List.Perm.refl _
    · have hm' : k ∈ l := by
        rcases List.mem_cons.1 hm with h | h
        · exact absurd h.symm e
        · exact h
      have ih := filter_insert hq hn.2 hm'
      simp only [List.filter_cons, decide_eq_false e, Bool.false_or]
      cases q x with
      | false => simpa using ih
      | true => simpa using (ih.cons x).trans (List.Perm.swap k x _)

structure Plan (D : Type) where
  val : Nat → D → Value
  pl : Nat → D → List Plot
  con : Nat → Option Nat
  fact : Nat → (Nat → D) → Prop
section
variable {D : Type}
def setD (a : Nat → D) (k : Nat) (d : D) : Nat → D := fun j => if j = k then d else a j
theorem setD_same (a : Nat → D) (k : Nat) (d : D) : setD a k d k = d := if_pos rfl
theorem setD_ne (a : Nat → D) {k j : Nat} (d : D) (h : j ≠ k) : setD a k d j = a j := if_neg h
def Plan.live (p : Plan D) (L : Nat → Bool) (j : Nat) : Bool := L j && (match p.con j with | some c => !L c | none => true)
def Plan.mem (p : Plan D) (n : Nat) (L : Nat → Bool) (a : Nat → D) : List Plot := ((List.range n).filter (p.live L)).flatMap fun j => p.pl j (a j)
/-- what operation k takes -/
def Plan.takes (p : Plan D) (n k : Nat) (a : Nat → D) : List Plot := ((List.range n).filter fun j => decide (p.con j = some k)).flatMap fun j => p.pl j (a j)
def Plan.S (p : Plan D) (w0 : World) (cs : List Plot) (σ0 : Env) (ops : List Oper) (L : Nat → Bool) (σ : Env) (w : World) : Prop :=
  (∀ s, (∀ (k : Nat) (o : Oper), ops[k]? = some o → o.dst ≠ some s) → σ s = σ0 s) ∧
  ∃ a : Nat → D, (∀ (k : Nat) (o : Oper), ops[k]? = some o → L k = true → (∀ d, o.dst = some d → σ d = p.val k (a k)) ∧ p.fact k a) ∧ Sep w0 w (p.mem ops.length L a ++ cs)
/-- how operation k goes, by the plan -/
def Plan.Rule (p : Plan D) (P : Program) (w0 : World) (cs : List Plot) (σ0 : Env) (ops : List Oper) (k : Nat) (o : Oper) : Prop :=
  ∀ (a : Nat → D) (σ : Env) (w : World) (rest : List Plot), (∀ s, (∀ (k : Nat) (o : Oper), ops[k]? = some o → o.dst ≠ some s) → σ s = σ0 s) →
    (∀ (j : Nat) (oj : Oper), bindsOn o j = true → ops[j]? = some oj → (∀ d, oj.dst = some d → σ d = p.val j (a j)) ∧ p.fact j a) → Sep w0 w (p.takes ops.length k a ++ (cs ++ rest)) →
    (Region.wanted o (yl ops.toArray σ) = true ∧ comes P (fun v w' => ∃ d, v = p.val k d ∧ p.fact k (setD a k d) ∧ Sep w0 w' (p.pl k d ++ (cs ++ rest))) ((execOp (evl σ) o).run P w)) ∨
    (Region.wanted o (yl ops.toArray σ) = false ∧ ∃ d, undef = p.val k d ∧ p.fact k (setD a k d) ∧ Sep w0 w (p.pl k d ++ (cs ++ rest)))
def Plan.Rules (p : Plan D) (P : Program) (w0 : World) (cs : List Plot) (σ0 : Env) (ops : List Oper) : Nat → List Oper → Prop
  | _, [] => True
  | k, o :: l => p.Rule P w0 cs σ0 ops k o ∧ p.Rules P w0 cs σ0 ops (k + 1) l
/-- the plan's book-keeping: whoever takes waits; targets differ -/
def planB (con : Nat → Option Nat) (ops : List Oper) : Bool :=
  (List.range ops.length).all fun j => (match con j with
    | some c => decide (c < ops.length) && (match ops[c]? with | some oc => bindsOn oc j | none => false)
    | none => true) && (List.range ops.length).all fun i => decide (i = j) || (match ops[i]?, ops[j]? with
      | some oi, some oj => (match oi.dst with | some d => decide (oj.dst ≠ some d) | none => true)
      | _, _ => true)
theorem comes_mono {P : Program} {T T' : Value → World → Prop} (h : ∀ v w, T v w → T' v w) : ∀ {r : Result Next}, comes P T r → comes P T' r := by
  intro r hr
  unfold comes at *
  split at hr
  · exact h _ _ hr
  · exact h _ _ hr
  · exact Calls.mono hr fun e w ⟨v, he, hv⟩ => ⟨v, he, h _ _ hv⟩
  · exact hr.elim
end
end Go.Sv
namespace Go.Sv
open Go Go.RowKit
theorem frameOf {σ : Env} (sl : List (Nat × Value)) (h : Has σ sl) : σ = real (updGL (lif σ) sl) := by rw [← real_updL, updL_has h]
theorem notDst {ops : List Oper} {s : Nat} (h : (ops.all fun o => decide (o.dst ≠ some s)) = true) : ∀ (k : Nat) (o : Oper), ops[k]? = some o → o.dst ≠ some s := fun k o hk =>
  of_decide_eq_true (List.all_eq_true.1 h o (List.mem_of_getElem? hk))
section
variable {D : Type} {P : Program} {w0 w w' : World} {cs rest : List Plot} {σ : Env} {d : Option Tmp} {op : Op} {ty : TypeId} {pos : String} {af : Array Edge} {v : Value} {k : Nat} {ops : Array Oper} {T : Value → World → Prop}
/-- an operation of a plan, that has no guard -/
theorem rule_y {B : Prop} {o : Oper} (hy : Y P σ o w v w') (hT : T v w') (hg : o.guard = none := by rfl) :
    (Region.wanted o (yl ops σ) = true ∧ comes P T ((execOp (evl σ) o).run P w)) ∨ B := .inl ⟨by simp [Region.wanted, hg], comes_of_Y hy hT⟩
theorem rule_call {B : Prop} {f : FuncId} [hf : Fnc P f] {args : List Operand} {ats : Array TypeId} {vals : List Value} {R : Value → World → Prop} (hc : CallsR P f vals.toArray w R) (hT : ∀ v w', R v w' → T v w') (ha : args.map (evl σ) = vals) :
    (Region.wanted (⟨d, .call ⟨.value (.func f), args.toArray, ats⟩, ty, pos, af, none⟩ : Oper) (yl ops σ) = true ∧ comes P T ((execOp (evl σ) ⟨d, .call ⟨.value (.func f), args.toArray, ats⟩, ty, pos, af, none⟩).run P w)) ∨ B := by
  refine .inl ⟨by simp [Region.wanted], ?_⟩
  rw [run_call_func]
  have : (args.toArray.map (evl σ)) = vals.toArray := by rw [← ha]; simp
  rw [this]
  exact Calls.mono hc fun e w'' ⟨v, he, hv⟩ => ⟨v, he, hT v w'' hv⟩
variable {t t' e e' : TypeId} {x y : Operand} {zv u : Value} {size bytes i m n c c' : Nat} {p q : Option Addr} {xs news vs : List Value}
/-- a slice written out, of one struct: its piece -/
theorem y_bs1 [hu : Und P t (.slice e)] [hi : Inf P e zv size bytes] (hS : Sep w0 w cs) (hx : evl σ x = .agg ⟨vs⟩) (hv : vs.length = size) (hz : zv.cells.size = size) (hsz : 0 < size) (hm : size ≤ 16777216) :
    ∃ b w', Y P σ ⟨d, .buildSlice t 1 #[(0, x)], ty, pos, af, none⟩ w (.slice (pb b) 1 1) w' ∧ Sep w0 w' (pOwn b vs :: cs) := by
  refine ⟨w.heap.size, w.alloc (.cells ⟨vs⟩ e), Y.val ?_, hS.push (frm_alloc _ _) (own_alloc _ _ _) (by simp [pOwn])⟩
  simp only [execOp, List.map_toArray, List.map_cons, List.map_nil, hx, Sem.run_bind]
  rw [run_buildSlice1 (P := P) (t := t) (e := e) hz (by simpa [Value.cells] using hv) hsz hm]
  rfl
/-- append to the i-th piece -/
theorem y_app [hu : Und P t (.slice e)] [hu' : Und P t' (.slice e')] [hi : Inf P e zv size bytes] (hS : Sep w0 w cs) (i : Nat) (hs : Sg w q news) (hc : cs[i]? = some (pRow size p m c xs)) (hx : evl σ x = .slice p m c) (hy : evl σ y = .slice q n c') (hl : news.length = n * size)
    (h1 : ∀ u ∈ news, u.oneCell' = true) (hz : zv.cells.size = size) (hsz : 0 < size) (hb : (m + n) * bytes ≤ 140737488355328 ∧ m + n ≤ 9223372036854775807) :
    ∃ p' c2 w', Y P σ ⟨d, .call ⟨.builtin .append, #[x, y], #[t, t']⟩, ty, pos, af, none⟩ w (.slice p' (m + n) c2) w' ∧ Sep w0 w' (cs.set i (pRow size p' (m + n) c2 (xs ++ news))) := by
  obtain ⟨p', c2, w', h2, h3, h4⟩ := run_append_row (P := P) (t := t) (tx := t') (ty := ty) (e := e) hz hsz (hS.row i hc) (src_of_sg (tx := t') (c := c') hs hl h1) hb.2 hb.1
  exact ⟨p', c2, w', run_append_op hx hy h2, hS.upd i hc h4 h3⟩
end
end Go.Sv

/-
  Package event: Equal, Count, Text.
-/
set_option linter.unusedSimpArgs false
set_option linter.unusedVariables false
set_option linter.unnecessarySimpa false
namespace Go.Sv
open Go Go.RowKit
section
variable {P : Program} {w : World}
variable {σ : Env} {d : Option Tmp} {ty t t' el : TypeId} {pos : String} {af : Array Edge} {g : Option (Nat × Bool)} {x y : Operand} {zv : Value} {bytes : Nat}
end
end Go.Sv
namespace Go.Proofs.YtcdogceabkpnmaaDoor
open Go Go.Sv Go.RowKit







































































































































































































end Go.Proofs.YtcdogceabkpnmaaDoor

/-
  Package event: Count, Text.
-/
set_option linter.unusedSimpArgs false
set_option linter.unusedVariables false
set_option linter.unnecessarySimpa false
namespace Go.Proofs.YtcdogceabkpnmaaDoor
open Go Go.Sv Go.RowKit

def cntR (l : List Ev) (k : Int) : Nat := l.countP fun e => decide (e.kind = k)
/-- how many of each kind -/
def cnts (l : List Ev) : List Value := [int (cntR l 0), int (cntR l 1), int (cntR l 2), int (cntR l 3)]
/-- all text in one -/
def etxt (e : Ev) : List UInt8 := if e.kind = 0 then mendR e.text else []
def textR (l : List Ev) : List UInt8 := l.flatMap etxt
end Go.Proofs.YtcdogceabkpnmaaDoor

/-
  Texts cut and joined: what is valid stays so.
-/
set_option linter.unusedSimpArgs false
set_option linter.unusedVariables false
set_option linter.unnecessarySimpa false
namespace Go.Proofs.YtcdogceabkpnmaaDoor
open Go Go.Sv Go.RowKit
end Go.Proofs.YtcdogceabkpnmaaDoor

/-
  Events folded into trees: what holds of events that nest; events merged.
-/
set_option linter.unusedSimpArgs false
set_option linter.unusedVariables false
set_option linter.unnecessarySimpa false
namespace Go.Proofs.YtcdogceabkpnmaaDoor
open Go Go.Sv Go.RowKit

/-- how deep it all is, frames closed -/
def up : List Fr → Nat → Nat
  | [], d => d
  | f :: fs, d => up fs (max (dN f.out) (1 + d))
/-- what holds of events that nest -/
structure Nst (l : List Ev) : Prop where
  h : hL l = (lkR l).stack.length
  stk : (mcR ⟨[], []⟩ l).stk.length = (lkR l).stack.length
  most : up (mcR ⟨[], []⟩ l).stk (dN (mcR ⟨[], []⟩ l).out) = (lkR l).most
  names : ∀ f ∈ (mcR ⟨[], []⟩ l).stk, f.name ≠ []
  cnt : cntR l 1 = cntR l 2 + (lkR l).stack.length
  all : cntR l 0 + cntR l 1 + cntR l 2 + cntR l 3 = l.length
/-! ## merged -/
def mgStep (acc : List Ev) (e : Ev) : List Ev :=
  if e.kind ≠ 0 then acc ++ [e]
  else if e.text = [] then acc
  else match acc.getLast? with
    | some m => if m.kind = 0 then acc.dropLast ++ [{ m with text := m.text ++ e.text }] else acc ++ [e]
    | none => [e]
def mgR (l : List Ev) : List Ev := l.foldl mgStep []
end Go.Proofs.YtcdogceabkpnmaaDoor

/- This seat's function types as instances (made by a program of ours). -/
namespace Go.Proofs.YtcdogceabkpnmaaDoor
open Go Go.Sv
instance : Agg Tryd.prog 1 false := ⟨_, Tryd.underlying1, rfl⟩
instance : Inf Tryd.prog 1 (.nilFunc) 1 8 := ⟨by kernel_rfl⟩
instance : Agg Tryd.prog 24 false := ⟨_, Tryd.underlying24, rfl⟩
instance : Inf Tryd.prog 24 (.nilFunc) 1 8 := ⟨by kernel_rfl⟩
instance : Agg Tryd.prog 26 false := ⟨_, Tryd.underlying26, rfl⟩
instance : Inf Tryd.prog 26 (.nilFunc) 1 8 := ⟨by kernel_rfl⟩
instance : Agg Tryd.prog 27 false := ⟨_, Tryd.underlying27, rfl⟩
instance : Inf Tryd.prog 27 (.nilFunc) 1 8 := ⟨by kernel_rfl⟩
instance : Agg Tryd.prog 28 false := ⟨_, Tryd.underlying28, rfl⟩
instance : Inf Tryd.prog 28 (.nilFunc) 1 8 := ⟨by kernel_rfl⟩
instance : Agg Tryd.prog 29 false := ⟨_, Tryd.underlying29, rfl⟩
instance : Inf Tryd.prog 29 (.nilFunc) 1 8 := ⟨by kernel_rfl⟩
instance : Agg Tryd.prog 34 false := ⟨_, Tryd.underlying34, rfl⟩
instance : Inf Tryd.prog 34 (.nilFunc) 1 8 := ⟨by kernel_rfl⟩
instance : Agg Tryd.prog 35 false := ⟨_, Tryd.underlying35, rfl⟩
instance : Inf Tryd.prog 35 (.nilFunc) 1 8 := ⟨by kernel_rfl⟩
instance : Agg Tryd.prog 36 false := ⟨_, Tryd.underlying36, rfl⟩
instance : Inf Tryd.prog 36 (.nilFunc) 1 8 := ⟨by kernel_rfl⟩
instance : Agg Tryd.prog 37 false := ⟨_, Tryd.underlying37, rfl⟩
instance : Inf Tryd.prog 37 (.nilFunc) 1 8 := ⟨by kernel_rfl⟩
instance : Agg Tryd.prog 38 false := ⟨_, Tryd.underlying38, rfl⟩
instance : Inf Tryd.prog 38 (.nilFunc) 1 8 := ⟨by kernel_rfl⟩
instance : Agg Tryd.prog 39 false := ⟨_, Tryd.underlying39, rfl⟩
instance : Inf Tryd.prog 39 (.nilFunc) 1 8 := ⟨by kernel_rfl⟩
instance : Agg Tryd.prog 40 false := ⟨_, Tryd.underlying40, rfl⟩
instance : Inf Tryd.prog 40 (.nilFunc) 1 8 := ⟨by kernel_rfl⟩
instance : Agg Tryd.prog 44 false := ⟨_, Tryd.underlying44, rfl⟩
instance : Inf Tryd.prog 44 (.nilFunc) 1 8 := ⟨by kernel_rfl⟩
instance : Agg Tryd.prog 45 false := ⟨_, Tryd.underlying45, rfl⟩
instance : Inf Tryd.prog 45 (.nilFunc) 1 8 := ⟨by kernel_rfl⟩
instance : Agg Tryd.prog 46 false := ⟨_, Tryd.underlying46, rfl⟩
instance : Inf Tryd.prog 46 (.nilFunc) 1 8 := ⟨by kernel_rfl⟩
instance : Agg Tryd.prog 48 false := ⟨_, Tryd.underlying48, rfl⟩
instance : Inf Tryd.prog 48 (.nilFunc) 1 8 := ⟨by kernel_rfl⟩
instance : Agg Tryd.prog 55 false := ⟨_, Tryd.underlying55, rfl⟩
instance : Inf Tryd.prog 55 (.nilFunc) 1 8 := ⟨by kernel_rfl⟩
instance : Agg Tryd.prog 56 false := ⟨_, Tryd.underlying56, rfl⟩
instance : Inf Tryd.prog 56 (.nilFunc) 1 8 := ⟨by kernel_rfl⟩
instance : Agg Tryd.prog 57 false := ⟨_, Tryd.underlying57, rfl⟩
instance : Inf Tryd.prog 57 (.nilFunc) 1 8 := ⟨by kernel_rfl⟩
instance : Agg Tryd.prog 58 false := ⟨_, Tryd.underlying58, rfl⟩
instance : Inf Tryd.prog 58 (.nilFunc) 1 8 := ⟨by kernel_rfl⟩
instance : Agg Tryd.prog 59 false := ⟨_, Tryd.underlying59, rfl⟩
instance : Inf Tryd.prog 59 (.nilFunc) 1 8 := ⟨by kernel_rfl⟩
instance : Agg Tryd.prog 60 false := ⟨_, Tryd.underlying60, rfl⟩
instance : Inf Tryd.prog 60 (.nilFunc) 1 8 := ⟨by kernel_rfl⟩
instance : Agg Tryd.prog 61 false := ⟨_, Tryd.underlying61, rfl⟩
instance : Inf Tryd.prog 61 (.nilFunc) 1 8 := ⟨by kernel_rfl⟩
instance : Agg Tryd.prog 63 false := ⟨_, Tryd.underlying63, rfl⟩
instance : Inf Tryd.prog 63 (.nilFunc) 1 8 := ⟨by kernel_rfl⟩
instance : Agg Tryd.prog 64 false := ⟨_, Tryd.underlying64, rfl⟩
instance : Inf Tryd.prog 64 (.nilFunc) 1 8 := ⟨by kernel_rfl⟩
instance : Agg Tryd.prog 65 false := ⟨_, Tryd.underlying65, rfl⟩
instance : Inf Tryd.prog 65 (.nilFunc) 1 8 := ⟨by kernel_rfl⟩
instance : Agg Tryd.prog 68 false := ⟨_, Tryd.underlying68, rfl⟩
instance : Inf Tryd.prog 68 (.nilFunc) 1 8 := ⟨by kernel_rfl⟩
instance : Agg Tryd.prog 71 false := ⟨_, Tryd.underlying71, rfl⟩
instance : Inf Tryd.prog 71 (.nilFunc) 1 8 := ⟨by kernel_rfl⟩
instance : Agg Tryd.prog 72 false := ⟨_, Tryd.underlying72, rfl⟩
instance : Inf Tryd.prog 72 (.nilFunc) 1 8 := ⟨by kernel_rfl⟩
instance : Agg Tryd.prog 73 false := ⟨_, Tryd.underlying73, rfl⟩
instance : Inf Tryd.prog 73 (.nilFunc) 1 8 := ⟨by kernel_rfl⟩
instance : Agg Tryd.prog 74 false := ⟨_, Tryd.underlying74, rfl⟩
instance : Inf Tryd.prog 74 (.nilFunc) 1 8 := ⟨by kernel_rfl⟩
instance : Agg Tryd.prog 77 false := ⟨_, Tryd.underlying77, rfl⟩
instance : Inf Tryd.prog 77 (.nilFunc) 1 8 := ⟨by kernel_rfl⟩
instance : Agg Tryd.prog 78 false := ⟨_, Tryd.underlying78, rfl⟩
instance : Inf Tryd.prog 78 (.nilFunc) 1 8 := ⟨by kernel_rfl⟩
instance : Agg Tryd.prog 79 false := ⟨_, Tryd.underlying79, rfl⟩
instance : Inf Tryd.prog 79 (.nilFunc) 1 8 := ⟨by kernel_rfl⟩
instance : Agg Tryd.prog 80 false := ⟨_, Tryd.underlying80, rfl⟩
instance : Inf Tryd.prog 80 (.nilFunc) 1 8 := ⟨by kernel_rfl⟩
instance : Agg Tryd.prog 81 false := ⟨_, Tryd.underlying81, rfl⟩
instance : Inf Tryd.prog 81 (.nilFunc) 1 8 := ⟨by kernel_rfl⟩
instance : Agg Tryd.prog 84 false := ⟨_, Tryd.underlying84, rfl⟩
instance : Inf Tryd.prog 84 (.nilFunc) 1 8 := ⟨by kernel_rfl⟩
instance : Agg Tryd.prog 85 false := ⟨_, Tryd.underlying85, rfl⟩
instance : Inf Tryd.prog 85 (.nilFunc) 1 8 := ⟨by kernel_rfl⟩
instance : Agg Tryd.prog 87 false := ⟨_, Tryd.underlying87, rfl⟩
instance : Inf Tryd.prog 87 (.nilFunc) 1 8 := ⟨by kernel_rfl⟩
instance : Agg Tryd.prog 88 false := ⟨_, Tryd.underlying88, rfl⟩
instance : Inf Tryd.prog 88 (.nilFunc) 1 8 := ⟨by kernel_rfl⟩
instance : Agg Tryd.prog 89 false := ⟨_, Tryd.underlying89, rfl⟩
instance : Inf Tryd.prog 89 (.nilFunc) 1 8 := ⟨by kernel_rfl⟩
instance : Agg Tryd.prog 91 false := ⟨_, Tryd.underlying91, rfl⟩
instance : Inf Tryd.prog 91 (.nilFunc) 1 8 := ⟨by kernel_rfl⟩
instance : Agg Tryd.prog 93 false := ⟨_, Tryd.underlying93, rfl⟩
instance : Inf Tryd.prog 93 (.nilFunc) 1 8 := ⟨by kernel_rfl⟩
instance : Agg Tryd.prog 96 false := ⟨_, Tryd.underlying96, rfl⟩
instance : Inf Tryd.prog 96 (.nilFunc) 1 8 := ⟨by kernel_rfl⟩
instance : Agg Tryd.prog 97 false := ⟨_, Tryd.underlying97, rfl⟩
instance : Inf Tryd.prog 97 (.nilFunc) 1 8 := ⟨by kernel_rfl⟩
instance : Agg Tryd.prog 98 false := ⟨_, Tryd.underlying98, rfl⟩
instance : Inf Tryd.prog 98 (.nilFunc) 1 8 := ⟨by kernel_rfl⟩
instance : Agg Tryd.prog 103 false := ⟨_, Tryd.underlying103, rfl⟩
instance : Inf Tryd.prog 103 (.nilFunc) 1 8 := ⟨by kernel_rfl⟩
instance : Agg Tryd.prog 104 false := ⟨_, Tryd.underlying104, rfl⟩
instance : Inf Tryd.prog 104 (.nilFunc) 1 8 := ⟨by kernel_rfl⟩
instance : Agg Tryd.prog 105 false := ⟨_, Tryd.underlying105, rfl⟩
instance : Inf Tryd.prog 105 (.nilFunc) 1 8 := ⟨by kernel_rfl⟩
instance : Agg Tryd.prog 110 false := ⟨_, Tryd.underlying110, rfl⟩
instance : Inf Tryd.prog 110 (.nilFunc) 1 8 := ⟨by kernel_rfl⟩
instance : Agg Tryd.prog 111 false := ⟨_, Tryd.underlying111, rfl⟩
instance : Inf Tryd.prog 111 (.nilFunc) 1 8 := ⟨by kernel_rfl⟩
instance : Agg Tryd.prog 113 false := ⟨_, Tryd.underlying113, rfl⟩
instance : Inf Tryd.prog 113 (.nilFunc) 1 8 := ⟨by kernel_rfl⟩
instance : Agg Tryd.prog 117 false := ⟨_, Tryd.underlying117, rfl⟩
instance : Inf Tryd.prog 117 (.nilFunc) 1 8 := ⟨by kernel_rfl⟩
instance : Agg Tryd.prog 118 false := ⟨_, Tryd.underlying118, rfl⟩
instance : Inf Tryd.prog 118 (.nilFunc) 1 8 := ⟨by kernel_rfl⟩
instance : Agg Tryd.prog 121 false := ⟨_, Tryd.underlying121, rfl⟩
instance : Inf Tryd.prog 121 (.nilFunc) 1 8 := ⟨by kernel_rfl⟩
instance : Agg Tryd.prog 127 false := ⟨_, Tryd.underlying127, rfl⟩
instance : Inf Tryd.prog 127 (.nilFunc) 1 8 := ⟨by kernel_rfl⟩
instance : Agg Tryd.prog 131 false := ⟨_, Tryd.underlying131, rfl⟩
instance : Inf Tryd.prog 131 (.nilFunc) 1 8 := ⟨by kernel_rfl⟩
instance : Agg Tryd.prog 132 false := ⟨_, Tryd.underlying132, rfl⟩
instance : Inf Tryd.prog 132 (.nilFunc) 1 8 := ⟨by kernel_rfl⟩
instance : Agg Tryd.prog 134 false := ⟨_, Tryd.underlying134, rfl⟩
instance : Inf Tryd.prog 134 (.nilFunc) 1 8 := ⟨by kernel_rfl⟩
instance : Agg Tryd.prog 137 false := ⟨_, Tryd.underlying137, rfl⟩
instance : Inf Tryd.prog 137 (.nilFunc) 1 8 := ⟨by kernel_rfl⟩
instance : Agg Tryd.prog 139 false := ⟨_, Tryd.underlying139, rfl⟩
instance : Inf Tryd.prog 139 (.nilFunc) 1 8 := ⟨by kernel_rfl⟩
instance : Agg Tryd.prog 140 false := ⟨_, Tryd.underlying140, rfl⟩
instance : Inf Tryd.prog 140 (.nilFunc) 1 8 := ⟨by kernel_rfl⟩
instance : Agg Tryd.prog 141 false := ⟨_, Tryd.underlying141, rfl⟩
instance : Inf Tryd.prog 141 (.nilFunc) 1 8 := ⟨by kernel_rfl⟩
instance : Agg Tryd.prog 143 false := ⟨_, Tryd.underlying143, rfl⟩
instance : Inf Tryd.prog 143 (.nilFunc) 1 8 := ⟨by kernel_rfl⟩
instance : Agg Tryd.prog 144 false := ⟨_, Tryd.underlying144, rfl⟩
instance : Inf Tryd.prog 144 (.nilFunc) 1 8 := ⟨by kernel_rfl⟩
instance : Agg Tryd.prog 145 false := ⟨_, Tryd.underlying145, rfl⟩
instance : Inf Tryd.prog 145 (.nilFunc) 1 8 := ⟨by kernel_rfl⟩
instance : Agg Tryd.prog 148 false := ⟨_, Tryd.underlying148, rfl⟩
instance : Inf Tryd.prog 148 (.nilFunc) 1 8 := ⟨by kernel_rfl⟩
instance : Agg Tryd.prog 149 false := ⟨_, Tryd.underlying149, rfl⟩
instance : Inf Tryd.prog 149 (.nilFunc) 1 8 := ⟨by kernel_rfl⟩
instance : Agg Tryd.prog 150 false := ⟨_, Tryd.underlying150, rfl⟩
instance : Inf Tryd.prog 150 (.nilFunc) 1 8 := ⟨by kernel_rfl⟩
instance : Agg Tryd.prog 152 false := ⟨_, Tryd.underlying152, rfl⟩
instance : Inf Tryd.prog 152 (.nilFunc) 1 8 := ⟨by kernel_rfl⟩
instance : Agg Tryd.prog 153 false := ⟨_, Tryd.underlying153, rfl⟩
instance : Inf Tryd.prog 153 (.nilFunc) 1 8 := ⟨by kernel_rfl⟩
instance : Agg Tryd.prog 154 false := ⟨_, Tryd.underlying154, rfl⟩
instance : Inf Tryd.prog 154 (.nilFunc) 1 8 := ⟨by kernel_rfl⟩
instance : Agg Tryd.prog 155 false := ⟨_, Tryd.underlying155, rfl⟩
instance : Inf Tryd.prog 155 (.nilFunc) 1 8 := ⟨by kernel_rfl⟩
instance : Agg Tryd.prog 156 false := ⟨_, Tryd.underlying156, rfl⟩
instance : Inf Tryd.prog 156 (.nilFunc) 1 8 := ⟨by kernel_rfl⟩
instance : Agg Tryd.prog 158 false := ⟨_, Tryd.underlying158, rfl⟩
instance : Inf Tryd.prog 158 (.nilFunc) 1 8 := ⟨by kernel_rfl⟩
instance : Agg Tryd.prog 160 false := ⟨_, Tryd.underlying160, rfl⟩
instance : Inf Tryd.prog 160 (.nilFunc) 1 8 := ⟨by kernel_rfl⟩
instance : Agg Tryd.prog 162 false := ⟨_, Tryd.underlying162, rfl⟩
instance : Inf Tryd.prog 162 (.nilFunc) 1 8 := ⟨by kernel_rfl⟩
instance : Agg Tryd.prog 167 false := ⟨_, Tryd.underlying167, rfl⟩
instance : Inf Tryd.prog 167 (.nilFunc) 1 8 := ⟨by kernel_rfl⟩
instance : Agg Tryd.prog 176 false := ⟨_, Tryd.underlying176, rfl⟩
instance : Inf Tryd.prog 176 (.nilFunc) 1 8 := ⟨by kernel_rfl⟩
instance : Agg Tryd.prog 179 false := ⟨_, Tryd.underlying179, rfl⟩
instance : Inf Tryd.prog 179 (.nilFunc) 1 8 := ⟨by kernel_rfl⟩
instance : Agg Tryd.prog 187 false := ⟨_, Tryd.underlying187, rfl⟩
instance : Inf Tryd.prog 187 (.nilFunc) 1 8 := ⟨by kernel_rfl⟩
instance : Agg Tryd.prog 190 false := ⟨_, Tryd.underlying190, rfl⟩
instance : Inf Tryd.prog 190 (.nilFunc) 1 8 := ⟨by kernel_rfl⟩
end Go.Proofs.YtcdogceabkpnmaaDoor

/-
  General steps: what is skipped, what is written, loops over functions (out of several texts).
-/
set_option linter.unusedSimpArgs false
set_option linter.unusedVariables false
set_option linter.unnecessarySimpa false
namespace Go.Sv
open Go Go.RowKit
/-- a guarded operation whose guard says no -/
theorem wlskipg {P : Program} {n : Nat} {ds : Ctx} {ops : Array Oper} {Q : Exit → Ctx → Env → World → Prop} {rest : List Oper} {σ : GE} {w : World} {d : Nat} {op : Op} {ty : TypeId} {pos : String} {af : Array Edge} {j dj : Nat} {want b c : Bool} (v : Value)
    (h : WL P n ds ops Q rest (real (updG σ d ⟨v, false⟩)) w)
    (hj : (ops[j]?).bind (·.dst) = some dj := by rfl) (hσ : σ dj = ⟨.bool c, b⟩ := by rfl) (hgt : (b && (c == want)) = false) :
    WL P n ds ops Q (⟨some d, op, ty, pos, af, some (j, want)⟩ :: rest) (real σ) w := by
  have hw := wanted_real (ops := ops) (o := ⟨some d, op, ty, pos, af, some (j, want)⟩) rfl hj hσ
  rw [hgt] at hw
  refine WL_skip hw ?_
  rw [← real_upd] at h
  exact h
/-- all blocks of a list as they were -/
def pKeep (w1 : World) (F : List Nat) : Plot where
  foot := F.filter fun b => decide (b < w1.heap.size)
  ok w := ∀ b ∈ F, b < w1.heap.size → w.heap[b]? = w1.heap[b]?
  view := (none, [])
  loc _ _ h hb := fun b hF hlt => (hb b (List.mem_filter.2 ⟨hF, by simpa using hlt⟩)).trans (h b hF hlt)
  lt w h x hx := by
    obtain ⟨h1, h2⟩ := List.mem_filter.1 hx
    have h3 : x < w1.heap.size := by simpa using h2
    have h4 := h x h1 h3
    rw [Array.getElem?_eq_getElem h3] at h4
    exact (Array.getElem?_eq_some_iff.1 h4).1
  sg _ _ := .inl rfl
def feet (cs : List Plot) : List Nat := cs.flatMap Plot.foot
/-- the blocks that belong to no piece -/
def others (w0 w1 : World) (cs : List Plot) : List Nat := (List.range w1.heap.size).filter fun x => decide (w0.heap.size ≤ x) && !(decide (x ∈ feet cs))
section
variable {w0 w1 w2 w w' : World} {cs ds : List Plot} {B : Nat}
theorem Sep.keep (h : Sep w0 w1 cs) : Sep w0 w1 (pKeep w1 (others w0 w1 cs) :: cs) := by
  refine ⟨h.frm, ?_, ?_, ?_⟩
  · intro c hc
    rcases List.mem_cons.1 hc with rfl | hc
    · exact fun _ _ _ => rfl
    · exact h.ok c hc
  · intro c hc x hx
    rcases List.mem_cons.1 hc with rfl | hc
    · have := (List.mem_filter.1 (List.mem_filter.1 hx).1).2
      simp only [Bool.and_eq_true, decide_eq_true_eq] at this
      exact this.1
    · exact h.low c hc x hx
  · rw [List.pairwise_cons]
    refine ⟨fun c hc x hx hx' => ?_, h.apart⟩
    have := (List.mem_filter.1 (List.mem_filter.1 hx).1).2
    simp only [Bool.and_eq_true, Bool.not_eq_true', decide_eq_false_iff_not] at this
    exact this.2 (List.mem_flatMap.2 ⟨c, hc, hx'⟩)
theorem Sep.keep1 (h : Sep w0 w1 cs) : ∃ kp : Plot, kp = pKeep w1 (others w0 w1 cs) ∧ Sep w0 w1 (kp :: cs) := ⟨_, rfl, h.keep⟩
/-- .. then only the pieces were written -/
theorem Sep.kept (h : Sep w0 w1 cs) (h2 : Sep w0 w2 ds) (hk : pKeep w1 (others w0 w1 cs) ∈ ds) (hsz : w1.heap.size ≤ w2.heap.size) : Le (feet cs) w1 w2 := by
  refine ⟨h2.frm.os.trans h.frm.os.symm, h2.frm.tape.trans h.frm.tape.symm, h2.frm.output.trans h.frm.output.symm, hsz, fun k hk1 hk2 => ?_⟩
  rcases Nat.lt_or_ge k w0.heap.size with h3 | h3
  · rw [h2.frm.block k h3, h.frm.block k h3]
  · exact h2.ok _ hk k (List.mem_filter.2 ⟨List.mem_range.2 hk1, by simp [h3, hk2]⟩) hk1
theorem Sep.same (h : Sep w0 w1 cs) (hs : Same B w1 w2) (h0 : w0.heap.size ≤ B) (hB : ∀ x ∈ feet cs, x < B) : Sep w0 w2 cs :=
  ⟨⟨hs.os.trans h.frm.os, hs.tape.trans h.frm.tape, hs.output.trans h.frm.output, Nat.le_trans h0 hs.size, fun k hk => (hs.block k (Nat.lt_of_lt_of_le hk h0)).trans (h.frm.block k hk)⟩,
    fun c hc => c.loc w1 w2 (h.ok c hc) fun x hx => hs.block x (hB x (List.mem_flatMap.2 ⟨c, hc, hx⟩)), h.low, h.apart⟩
theorem Same.mono {B B' : Nat} (h : Same B w w') (hb : B' ≤ B) : Same B' w w' := ⟨h.os, h.tape, h.output, Nat.le_trans hb h.size, fun k hk => h.block k (Nat.lt_of_lt_of_le hk hb)⟩
end
/-- is a function nil? -/
theorem y_fnil {P : Program} {w : World} {σ : Env} {d : Option Tmp} {ty t t' : TypeId} {pos : String} {af : Array Edge} {g : Option (Nat × Bool)} {x y : Operand} {f : Fn} {a1 c1 : Array Value} {ps rs : Array TypeId} {vd : Bool} (hu : P.underlying t = some (.func ps rs vd)) (hx : evl σ x = .func f a1 c1) (hy : evl σ y = .nilFunc) : Y P σ ⟨d, .binOp .eql t x y t', ty, pos, af, g⟩ w (.bool false) w := by
  refine Y.val ?_
  have h : ∀ k : Nat, (Op.equalIn (k + 1) t (.func f a1 c1) .nilFunc).run P w = .ok false w := fun k => by simp [Op.equalIn, run_underlying hu]
  simp only [execOp, hx, hy]
  simp [eqGuard, binOp, Op.equal, Op.maxDepth, h 9999]
def colls (Ds : List Nat) : List Deferred := Ds.map fun D => { target := .collected D, args := #[] }
theorem fp_marks {P : Program} {n : Nat} {fn : Func} {R : Value → World → Prop} {ex : Exit} {σ : Env} {w0 : World} {cs : List Plot} (hex : ex = .ret ∨ ex = .normal) : ∀ (Ds : List Nat) (w : World), Sep w0 w (Ds.map pDef ++ cs) → (∀ w', Sep w0 w' cs → fpost P n fn R ex ⟨[], none⟩ σ w') → fpost P n fn R ex ⟨colls Ds, none⟩ σ w
  | [], w, hS, h => h w hS
  | D :: Ds, w, hS, h => fp_mark hex (hS.noDef 0 rfl) (fp_marks hex Ds _ hS.undef h)
theorem loop_fam {P : Program} {n : Nat} {fn : FuncId} {dd : List Deferred} {σ : GE} {ps : List Tmp} {a b : Code} {D l : Nat} {w : World} (hL : LoopAt w l (recOf P n fn dd σ ps a b D .ready none)) : ∃ rc : LoopState → Option Code → Loop, rc = recOf P n fn dd σ ps a b D ∧ LoopAt w l (rc .ready none) := ⟨_, rfl, hL⟩
theorem Sep.feet_lt {w0 w : World} {cs : List Plot} (h : Sep w0 w cs) : ∀ x ∈ feet cs, x < w.heap.size := fun x hx => by
  obtain ⟨c, hc, hx⟩ := List.mem_flatMap.1 hx
  exact h.lt hc x hx
/-- a guarded operation whose guard says yes -/
theorem wlgt {P : Program} {n : Nat} {ds : Ctx} {ops : Array Oper} {Q : Exit → Ctx → Env → World → Prop} {rest : List Oper} {σ : GE} {w w' : World} {d : Nat} {op : Op} {ty : TypeId} {pos : String} {af : Array Edge} {j dj : Nat} {want b c : Bool} {v : Value}
    (hy : Y P (real σ) ⟨some d, op, ty, pos, af, some (j, want)⟩ w v w') (h : WL P n ds ops Q rest (real (updG σ d ⟨v, true⟩)) w')
    (hj : (ops[j]?).bind (·.dst) = some dj := by rfl) (hσ : σ dj = ⟨.bool c, b⟩ := by rfl) (hgt : (b && (c == want)) = true) :
    WL P n ds ops Q (⟨some d, op, ty, pos, af, some (j, want)⟩ :: rest) (real σ) w := by
  have hw := wanted_real (ops := ops) (o := ⟨some d, op, ty, pos, af, some (j, want)⟩) rfl hj hσ
  rw [hgt] at hw
  refine WL_want hw hy ?_
  rw [← real_upd] at h
  exact h
theorem sum_take_le {α : Type} (f : α → Nat) (l : List α) (i : Nat) : ((l.take i).map f).sum ≤ (l.map f).sum := by
  have h : (l.map f).sum = ((l.take i).map f).sum + ((l.drop i).map f).sum := by
    rw [← List.sum_append, ← List.map_append, List.take_append_drop]
  omega
end Go.Sv

/-
  Trees: the general part.
-/
set_option linter.unusedSimpArgs false
set_option linter.unusedVariables false
set_option linter.unnecessarySimpa false
namespace Go.Proofs.YtcdogceabkpnmaaDoor
open Go Go.Sv Go.RowKit
/-- a node, without where it lies -/
def NdM.nd (m : NdM) : Nd := ⟨m.name, m.text, m.attrs, m.kids.fo⟩
theorem fo_list (f : FoM) : f.fo = Fo.of (f.list.map NdM.nd) := by
  induction f with
  | nil => rfl
  | cons n t es ap ac ks kp kc r _ ih => simp only [FoM.fo, FoM.list, List.map_cons, Fo.of, NdM.nd, ih]
theorem fo_of (L : List NdM) : (FoM.of L).fo = Fo.of (L.map NdM.nd) := by rw [fo_list, FoM.list_of]
theorem len_of (L : List NdM) : (FoM.of L).len = L.length := by rw [FoM.len, FoM.list_of]
theorem rows_of (L : List NdM) : (FoM.of L).rows = L.flatMap NdM.rows := by rw [rows_eq, FoM.list_of]
theorem nds_flat (L : List NdM) (m : NdM) : L.flatMap NdM.cells ++ m.cells = (L ++ [m]).flatMap NdM.cells := by simp
/-- a node's rows to the others -/
theorem Sep.node {w0 w : World} {cs : List Plot} {m : NdM} {L : List NdM} (h : Sep w0 w (pRow 2 m.ap m.attrs.length m.ac (m.attrs.flatMap At.cells) :: pRow 4 m.kp m.kids.len m.kc (m.kids.list.flatMap NdM.cells) :: pMany m.kids.rows :: pMany (L.flatMap NdM.rows) :: cs)) : Sep w0 w (pMany ((L ++ [m]).flatMap NdM.rows) :: cs) := by
  have h1 := (((h.front 3 rfl).front 1 rfl).more).front 1 rfl
  have h2 := h1.more.front 1 rfl
  have h3 := h2.both
  have e : (L ++ [m]).flatMap NdM.rows = L.flatMap NdM.rows ++ [⟨2, m.ap, m.attrs.length, m.ac, m.attrs.flatMap At.cells⟩] ++ [⟨4, m.kp, m.kids.len, m.kc, m.kids.list.flatMap NdM.cells⟩] ++ m.kids.rows := by simp [NdM.rows]
  rw [e]; exact h3
/-- a text, as a node -/
def txtM (t : List UInt8) : NdM := ⟨[], t, [], none, 0, .nil, none, 0⟩
def txl (ms : List EvM) (i : Nat) : Nat := (((evs ms).take i).map fun e => e.text.length).sum
theorem flat_text (l : List NdM) (m : NdM) (v : List UInt8) : ((l ++ [m]).flatMap NdM.cells).take (l.length * 4 + 1) ++ [str v] ++ ((l ++ [m]).flatMap NdM.cells).drop (l.length * 4 + 1 + 1) = (l ++ [{ m with text := v }]).flatMap NdM.cells := by
  have hF := fm_len NdM.clen l
  rw [List.flatMap_append, List.flatMap_append]
  generalize l.flatMap NdM.cells = F at *
  rw [← hF, List.take_append, List.drop_append, List.take_of_length_le (by omega), List.drop_eq_nil_of_le (by omega)]
  rw [show F.length + 1 - F.length = 1 by omega, show F.length + 1 + 1 - F.length = 2 by omega]
  simp [NdM.cells]
theorem fo_inj {f g : FoM} : f.fo = g.fo ↔ f.list.map NdM.nd = g.list.map NdM.nd := by
  rw [fo_list, fo_list]
  constructor
  · intro h
    have := congrArg Fo.list h
    rwa [Fo.list_of, Fo.list_of] at this
  · intro h; rw [h]
theorem nd_eq (m m2 : NdM) : m.nd = m2.nd ↔ m.name = m2.name ∧ m.text = m2.text ∧ m.attrs = m2.attrs ∧ m.kids.fo = m2.kids.fo := by
  unfold NdM.nd
  constructor
  · intro h; injection h with h1 h2 h3 h4; exact ⟨h1, h2, h3, h4⟩
  · rintro ⟨h1, h2, h3, h4⟩; rw [h1, h2, h3, h4]
/-! ## how much they weigh -/
def Fo.wt : Fo → Nat
  | .nil => 0
  | .cons n t es ks r => 4 + n.length + t.length + (es.map At.wt).sum + ks.wt + r.wt
theorem wt_fo (f : FoM) : f.wt = f.fo.wt := by
  induction f with
  | nil => rfl
  | cons n t es ap ac ks kp kc r ih1 ih2 => simp only [FoM.wt, FoM.fo, Fo.wt, ih1, ih2]
/-- a list of trees in memory of one's own -/
theorem Sep.treL {w0 w : World} {cs : List Plot} {q : Option Addr} {n c : Nat} {L : List NdM} (h : Sep w0 w cs) (i j : Nat) (hi : cs[i]? = some (pRow 4 q n c (L.flatMap NdM.cells))) (hj : cs[j]? = some (pMany (L.flatMap NdM.rows))) : Tre w q (FoM.of L) := by
  refine Sep.tre (n := n) (c := c) h i j ?_ ?_
  · rw [FoM.list_of]; exact hi
  · rw [rows_of]; exact hj
end Go.Proofs.YtcdogceabkpnmaaDoor

/-
  Chapter 21: text of a node; trees in new memory.
-/
set_option linter.unusedSimpArgs false
set_option linter.unusedVariables false
set_option linter.unnecessarySimpa false
namespace Go.Sv
open Go Go.RowKit
section
variable {P : Program} {w0 w : World} {cs : List Plot} {σ : Env} {d : Option Tmp} {ty : TypeId} {pos : String} {af : Array Edge} {t t' e e' : TypeId} {x y : Operand} {zv : Value} {size bytes n c : Nat} {q : Option Addr} {news : List Value}
/-- a slice written out, of none -/
theorem y_bs0 [hu : Und P t (.slice e)] [hi : Inf P e zv size bytes] (hS : Sep w0 w cs) :
    ∃ b w', Y P σ ⟨d, .buildSlice t 0 #[], ty, pos, af, none⟩ w (.slice (pb b) 0 0) w' ∧ Sep w0 w' (pRow size (pb b) 0 0 [] :: cs) := by
  refine ⟨w.heap.size, w.alloc (.cells #[] e), Y.val ?_, hS.push (frm_alloc _ _) (Row.of_own (own_alloc _ _ _) (by simp) (by omega)) (by simp [pRow, rb])⟩
  simp only [execOp, Instr.buildSlice, Sem.run_bind, underlying, run_program, Result.andThen_ok, hu.ok, Sem.run_pure, run_sizeOf (P := P) (t := e), Nat.zero_mul]
  simp [Instr.fill, newRow]
  refine congrArg (fun cs => w.alloc (Obj.cells cs e)) ?_
  apply Array.ext'
  simp
/-- append to nothing -/
theorem y_app0 [hu : Und P t (.slice e)] [hu' : Und P t' (.slice e')] [hi : Inf P e zv size bytes] (hS : Sep w0 w cs) (hs : Sg w q news) (hx : evl σ x = .slice none 0 0) (hy : evl σ y = .slice q n c) (hl : news.length = n * size)
    (h1 : ∀ u ∈ news, u.oneCell' = true) (hz : zv.cells.size = size) (hsz : 0 < size) (hb : n * bytes ≤ 140737488355328 ∧ n ≤ 9223372036854775807) :
    ∃ p' c2 w', Y P σ ⟨d, .call ⟨.builtin .append, #[x, y], #[t, t']⟩, ty, pos, af, none⟩ w (.slice p' n c2) w' ∧ Sep w0 w' (pRow size p' n c2 news :: cs) := by
  obtain ⟨p', c2, w', h1, h2⟩ := y_app (P := P) (t := t) (t' := t') (ty := ty) (pos := pos) (af := af) (d := d) (x := x) (y := y) (n := n) (hS.push (c := pRow size none 0 0 []) (Frm.refl _) (Row.nil _ size) (rb_nil _)) 0 hs rfl hx hy hl h1 hz hsz (by rw [Nat.zero_add]; exact hb)
  rw [Nat.zero_add] at h1 h2
  rw [List.nil_append] at h2
  exact ⟨p', c2, w', h1, h2⟩
end
end Go.Sv
namespace Go.Sv
open Go Go.RowKit
/-- some of the first n pieces, in whatever order, ahead of the rest -/
theorem Sep.sel {w0 w : World} {xs ds : List Plot} (h : Sep w0 w xs) (n : Nat) (is : List Nat) (hd : is.filterMap (fun i => xs[i]?) ++ xs.drop n = ds := by rfl) (hn : is.Nodup := by decide) (hl : ∀ i ∈ is, i < n := by decide) : Sep w0 w ds := by
  subst hd
  have hR : ∀ (i j : Nat) (a b : Plot), i ≠ j → xs[i]? = some a → xs[j]? = some b → ∀ x ∈ a.foot, x ∉ b.foot := by
    intro i j a b hij ha hb
    obtain ⟨hi, rfl⟩ := List.getElem?_eq_some_iff.1 ha
    obtain ⟨hj, rfl⟩ := List.getElem?_eq_some_iff.1 hb
    have hp := h.apart
    rw [List.pairwise_iff_getElem] at hp
    rcases Nat.lt_or_ge i j with h1 | h1
    · exact hp i j hi hj h1
    · intro x hx hx'
      exact hp j i hj hi (by omega) x hx' hx
  have hm : ∀ c ∈ is.filterMap (fun i => xs[i]?) ++ xs.drop n, c ∈ xs := by
    intro c hc
    rcases List.mem_append.1 hc with hc | hc
    · obtain ⟨i, _, hi⟩ := List.mem_filterMap.1 hc
      exact List.mem_of_getElem? hi
    · exact List.mem_of_mem_drop hc
  refine ⟨h.frm, fun c hc => h.ok c (hm c hc), fun c hc => h.low c (hm c hc), ?_⟩
  rw [List.pairwise_append]
  refine ⟨?_, h.apart.sublist (List.drop_sublist _ _), ?_⟩
  · rw [List.pairwise_filterMap]
    exact hn.imp fun {i j} hij a ha b hb => hR i j a b hij ha hb
  · intro a ha b hb
    obtain ⟨i, hi, hia⟩ := List.mem_filterMap.1 ha
    obtain ⟨j, hj⟩ := List.mem_iff_getElem?.1 hb
    rw [List.getElem?_drop] at hj
    have := hl i hi
    exact hR i (n + j) a b (by omega) hia hj
end Go.Sv
namespace Go.Proofs.YtcdogceabkpnmaaDoor
open Go Go.Sv Go.RowKit

theorem bm1 {σ : Env} {x : Operand} {v : Value} {i : Nat} (h : evl σ x = v) : [(i, x)].map (fun p => (p.1, evl σ p.2)) = [(i, v)] := by simp [h]
/-- a node put behind others: its rows to theirs -/
theorem Sep.putNode {w0 w : World} {cs : List Plot} {m : NdM} {L : List NdM} {b b' : Nat} {vs vs' : List Value} {q : Option Addr} {cc : Nat} (h : Sep w0 w (pOwn b vs :: pRow 4 m.kp m.kids.len m.kc (m.kids.list.flatMap NdM.cells) :: pMany m.kids.rows :: pRow 2 m.ap m.attrs.length m.ac (m.attrs.flatMap At.cells) :: pOwn b' vs' :: pRow 4 q (L.length + 1) cc (L.flatMap NdM.cells ++ m.cells) :: pMany (L.flatMap NdM.rows) :: cs)) :
    Sep w0 w (pRow 4 q (L ++ [m]).length cc ((L ++ [m]).flatMap NdM.cells) :: pMany ((L ++ [m]).flatMap NdM.rows) :: cs) := by
  have h5 := (Sep.node (m := m) (L := L) (cs := pRow 4 q (L.length + 1) cc (L.flatMap NdM.cells ++ m.cells) :: cs) (h.sel 7 [3, 1, 2, 6, 5])).front 1 rfl
  rw [nds_flat] at h5
  rw [List.length_append]
  exact h5
theorem Sep.putNode2 {w0 w : World} {cs : List Plot} {m : NdM} {L : List NdM} {b' : Nat} {vs' : List Value} {q : Option Addr} {cc : Nat} (h : Sep w0 w (pRow 2 m.ap m.attrs.length m.ac (m.attrs.flatMap At.cells) :: pRow 4 m.kp m.kids.len m.kc (m.kids.list.flatMap NdM.cells) :: pMany m.kids.rows :: pRow 4 q (L.length + 1) cc (L.flatMap NdM.cells ++ m.cells) :: pOwn b' vs' :: pMany (L.flatMap NdM.rows) :: cs)) :
    Sep w0 w (pRow 4 q (L ++ [m]).length cc ((L ++ [m]).flatMap NdM.cells) :: pMany ((L ++ [m]).flatMap NdM.rows) :: cs) := by
  have h5 := (Sep.node (m := m) (L := L) (cs := pRow 4 q (L.length + 1) cc (L.flatMap NdM.cells ++ m.cells) :: cs) (h.sel 6 [0, 1, 2, 5, 3])).front 1 rfl
  rw [nds_flat] at h5
  rw [List.length_append]
  exact h5
theorem oneText_ok (n : List UInt8) (u v x : Value) (w : World) : PureC Tryd.prog 45 #[.agg ⟨[str n, u, v, x]⟩] w (.bool (decide (n = []))) := by
  have hS := Sep.start w
  refine enter (l := [.agg ⟨[str n, u, v, x]⟩]) Tryd.func45 rfl Tryd.ntmps45 (by kernel_rfl) rfl ?_
  refine sgo ?_
  refine sbox (v := .agg ⟨[str n, u, v, x]⟩) hS fun b1 w1 hS => ?_
  replace hS : Sep w w1 [pOwn b1 [str n, u, v, x]] := hS
  refine sgo ?_
  (first | refine fp1 (.inl rfl) rfl rfl ?_ | refine fp2 (.inl rfl) rfl rfl rfl ?_ | refine fp3 (.inl rfl) rfl rfl rfl rfl ?_ | refine fp0 (.inr rfl) rfl ?_ | refine fp0 (.inl rfl) rfl ?_ | refine fp1 (.inr rfl) rfl rfl ?_); refine ⟨?_, by (first | exact Frm.refl _ | assumption | exact Go.Sv.Sep.frm (by assumption) | (refine Frm.trans ?_ (by assumption); first | exact Frm.refl _ | assumption))⟩; (try simp only [realB, rv_true, Nat.reduceBEq, cond_true, cond_false, entG, real_lif, updGL])
set_option maxHeartbeats 2000000 in
theorem own21_ok : ∀ (k : Nat) (f : FoM) (p : Option Addr) (c : Nat), f.size < k → f.wt ≤ 1048576 → ∀ (w0 w : World) (cs : List Plot), Sep w0 w cs → Tre w p f →
    CallsR Tryd.prog 39 #[.slice p f.len c] w fun v w' => ∃ (q : Option Addr) (cc : Nat) (L : List NdM), v = .slice q L.length cc ∧ L.map NdM.nd = f.list.map NdM.nd ∧ Frm w w' ∧ Sep w0 w' (pRow 4 q L.length cc (L.flatMap NdM.cells) :: pMany (L.flatMap NdM.rows) :: cs) := by
  intro k
  induction k with
  | zero => intro f p c hk; omega
  | succ k ih =>
    intro f p c hk hw w0 w cs hS0 hT
    have hlw := FoM.len_wt f
    have hS := ((Sep.start w).zero).push (c := pRow 4 none 0 0 []) (Frm.refl _) (Row.nil _ 4) (rb_nil _)
    refine enter (l := [.slice p f.len c]) Tryd.func39 rfl Tryd.ntmps39 (by kernel_rfl) rfl ?_
    refine sgo ?_
    refine wcloop (X := Nat × Option Addr × Nat × List NdM) (fun x => [(3, .slice x.2.1 x.2.2.2.length x.2.2.1), (6, .slice p f.len c), (7, int f.len), (8, int x.1)])
      (fun x wr => x.1 ≤ f.len ∧ x.2.2.2.length = x.1 ∧ x.2.2.2.map NdM.nd = (f.list.map NdM.nd).take x.1 ∧ Sep w wr [pRow 4 x.2.1 x.2.2.2.length x.2.2.1 (x.2.2.2.flatMap NdM.cells), pMany (x.2.2.2.flatMap NdM.rows)])
      (fun x => f.len - x.1) (0, none, 0, []) ⟨rfl, rfl, rfl, rfl, trivial⟩ ⟨Nat.zero_le _, rfl, rfl, hS⟩ ?_
    clear hS
    rintro ⟨i, q, cc, L⟩ wr ρ ⟨hil, hLi, hev, hS⟩
    dsimp only at *
    refine sgo ?_
    (show WC _ _ _ _ _ _ _; first | refine WC_dec rfl (fun hc => ?_) (fun hc => ?_) | refine WC_cond rfl (fun hc => ?_) (fun hc => ?_))
    · have hlt : i < f.len := by omega
      have hTw := hT.frm hS.frm
      have hIm := hTw.im
      obtain ⟨m, hx, hm, hseg, hfl, hps, hat, hkT⟩ := tre_at hT hlt
      have hsz := FoM.size_mem hm
      have hsm := nd_small hw hm
      have hih := fun w' (cs' : List Plot) (h : Sep w w' cs') => ih m.kids m.kp m.kc (by omega) hsm.kids w w' cs' h (hkT.frm h.frm)
      have htk : (f.list.map NdM.nd).take (i + 1) = (f.list.map NdM.nd).take i ++ [m.nd] := by rw [List.take_add_one, List.getElem?_map, hx]; rfl
      have hes := hsm.attrs
      have hl1 := fm_len At.len m.attrs
      obtain ⟨n, t, es, ap, ac, ks, kp, kc⟩ := m
      dsimp only at hih hat hes hl1
      clear hc
      refine sgo ?_
      rw [hseg]
      refine salloc hS fun b5 w5 hS => ?_
      refine sgo ?_
      refine ssta (vs := [str n, str t, .slice ap es.length ac, .slice kp ks.len kc]) hS 0 fun w6 hS => ?_
      replace hS : Sep w w6 [pOwn b5 [str n, str t, .slice ap es.length ac, .slice kp ks.len kc], pRow 4 q L.length cc (L.flatMap NdM.cells), pMany (L.flatMap NdM.rows)] := hS
      refine sgo ?_
      refine sapp0 hS (hat.sep hS).sg (fun q2 c2 w10 hS => ?_) (hl := by omega) (h1 := att_one es)
      refine sgo ?_
      refine sst_slice hS 1 fun w11 hS => ?_
      replace hS : Sep w w11 [pRow 2 q2 es.length c2 (es.flatMap At.cells), pOwn b5 [str n, str t, .slice q2 es.length c2, .slice kp ks.len kc], pRow 4 q L.length cc (L.flatMap NdM.cells), pMany (L.flatMap NdM.rows)] := hS
      refine sgo ?_
      refine wlcall (hih w11 _ hS) ?_
      rintro _ w12 ⟨q3, c3, K, rfl, hK, -, hS⟩
      refine sgo ?_
      refine sst_slice hS 3 fun w13 hS => ?_
      replace hS : Sep w w13 [pRow 4 q3 K.length c3 (K.flatMap NdM.cells), pMany (K.flatMap NdM.rows), pRow 2 q2 es.length c2 (es.flatMap At.cells), pOwn b5 [str n, str t, .slice q2 es.length c2, .slice q3 K.length c3], pRow 4 q L.length cc (L.flatMap NdM.cells), pMany (L.flatMap NdM.rows)] := hS
      refine sgo ?_
      refine sb1a (vs := [str n, str t, .slice q2 es.length c2, .slice q3 K.length c3]) hS fun b12 w14 hS => ?_
      refine sgo ?_
      refine sapp hS 5 (hS.own 0 rfl).sg (fun q4 c4 w15 hS => ?_) (h1 := by simp [Value.oneCell'])
      refine sgo ?_
      have hnx := Sep.putNode (m := ⟨n, t, es, q2, c2, .of K, q3, c3⟩) (L := L) (b := b12) (b' := b5) (q := q4) (cc := c4) (by rw [NdM.cells, len_of, FoM.list_of, rows_of]; exact hS)
      refine ⟨(i + 1, q4, c4, L ++ [⟨n, t, es, q2, c2, .of K, q3, c3⟩]), ⟨by dsimp only; rw [List.length_append]; rfl, rfl, rfl, rfl, trivial⟩, ⟨hlt, by simp [hLi], ?_, hnx⟩, (by (try dsimp only); omega)⟩
      dsimp only
      rw [htk, List.map_append, hev, List.map_cons, List.map_nil]
      congr 2
      show Nd.mk n t es (FoM.of K).fo = Nd.mk n t es ks.fo
      rw [fo_of, hK, ← fo_list]
    · obtain rfl : i = f.len := by omega
      refine sgo ?_
      (first | refine fp1 (.inl rfl) rfl rfl ?_ | refine fp2 (.inl rfl) rfl rfl rfl ?_ | refine fp3 (.inl rfl) rfl rfl rfl rfl ?_ | refine fp0 (.inr rfl) rfl ?_ | refine fp0 (.inl rfl) rfl ?_ | refine fp1 (.inr rfl) rfl rfl ?_)
      refine ⟨q, cc, L, rfl, ?_, hS.frm, hS0.seq (ds := [_, _]) hS⟩
      rw [hev]
      exact List.take_of_length_le (by rw [List.length_map]; exact Nat.le_refl _)
end Go.Proofs.YtcdogceabkpnmaaDoor

/-
  Packages token and sieveref07: Equal, Attr, SameAttrs; sievelaw07: TokenChecks.
-/
set_option linter.unusedSimpArgs false
set_option linter.unusedVariables false
set_option linter.unnecessarySimpa false
namespace Go.Proofs.YtcdogceabkpnmaaDoor
open Go Go.Sv Go.RowKit

def eqR (a b : Tok) : Bool := decide (a.kind = b.kind) && (decide (a.name = b.name) && (decide (a.text = b.text) && (decide (a.self = b.self) && decide (a.attrs = b.attrs))))
theorem at_get0 {es : List At} {i : Nat} {x : At} (hx : es[i]? = some x) : (es.flatMap At.cells)[i * 2]? = some (str x.n) := by
  have := fm_get At.len es i 0 (by omega)
  rw [Nat.add_zero, hx] at this
  exact this
theorem at_get1 {es : List At} {i : Nat} {x : At} (hx : es[i]? = some x) : (es.flatMap At.cells)[i * 2 + 1]? = some (str x.v) := by
  have := fm_get At.len es i 1 (by omega)
  rw [hx] at this
  exact this
theorem at_ext {x y : At} : x = y ↔ x.n = y.n ∧ x.v = y.v := by cases x; cases y; simp
theorem take_eq_succ {α : Type} {l l' : List α} {i : Nat} {x : α} (h : l.take i = l'.take i) (hx : l[i]? = some x) (hy : l'[i]? = some x) : l.take (i + 1) = l'.take (i + 1) := by
  rw [List.take_add_one, List.take_add_one, h, hx, hy]

set_option maxHeartbeats 2000000 in
theorem sameAttrs_ok (es fs : List At) (p q : Option Addr) (c c' : Nat) (hb : es.length ≤ 1048576) (hb' : fs.length ≤ 1048576) (w : World) (hi : Im [] w p (es.flatMap At.cells)) (hj : Im [] w q (fs.flatMap At.cells)) :
    PureC Tryd.prog 42 #[.slice p es.length c, .slice q fs.length c'] w (.bool (decide (es = fs))) := by
  have hl1 := fm_len At.len es
  have hl2 := fm_len At.len fs
  refine enter (l := [.slice p es.length c, .slice q fs.length c']) Tryd.func42 rfl Tryd.ntmps42 (by kernel_rfl) rfl ?_
  refine sgo ?_
  (show WC _ _ _ _ _ _ _; first | refine WC_dec rfl (fun hc => ?_) (fun hc => ?_) | refine WC_cond rfl (fun hc => ?_) (fun hc => ?_))
  · refine sgo ?_
    (first | refine fp1 (.inl rfl) rfl rfl ?_ | refine fp2 (.inl rfl) rfl rfl rfl ?_ | refine fp3 (.inl rfl) rfl rfl rfl rfl ?_ | refine fp0 (.inr rfl) rfl ?_ | refine fp0 (.inl rfl) rfl ?_ | refine fp1 (.inr rfl) rfl rfl ?_); refine ⟨?_, by (first | exact Frm.refl _ | assumption | exact Go.Sv.Sep.frm (by assumption) | (refine Frm.trans ?_ (by assumption); first | exact Frm.refl _ | assumption))⟩; (try simp only [realB, rv_true, Nat.reduceBEq, cond_true, cond_false, entG, real_lif, updGL])
    rw [decide_eq_false]
    rintro rfl
    exact hc rfl
  have hle : es.length = fs.length := by
    have : ¬ ((es.length : Int) ≠ fs.length) := hc
    omega
  clear hc
  refine sgo ?_
  refine wcloop (X := Nat) (fun i => [(0, .slice p es.length c), (1, .slice q fs.length c'), (12, int es.length), (13, int i)]) (fun i wr => i ≤ es.length ∧ es.take i = fs.take i ∧ Frm w wr) (fun i => es.length - i) 0 ⟨rfl, rfl, rfl, rfl, trivial⟩ ⟨by omega, rfl, Frm.refl _⟩ ?_
  rintro i wr ρ ⟨hil, htk, hf⟩
  have hIr := hi.frm hf
  have hJr := hj.frm hf
  refine sgo ?_
  (show WC _ _ _ _ _ _ _; first | refine WC_dec rfl (fun hc => ?_) (fun hc => ?_) | refine WC_cond rfl (fun hc => ?_) (fun hc => ?_))
  · have hlt : i < es.length := by omega
    have hx : es[i]? = some es[i] := List.getElem?_eq_getElem hlt
    have hy : fs[i]? = some fs[i] := List.getElem?_eq_getElem (by omega)
    generalize es[i] = x at *
    generalize fs[i] = y at *
    have g0 := at_get0 hx
    have g1 := at_get1 hx
    have k0 := at_get0 hy
    have k1 := at_get1 hy
    refine sgo ?_
    (first | refine WC_seq ?_ | skip); refine wcdraw ?_
    refine qgo ?_
    refine QL_nil ?_; intro wd hwd
    have hfd := hf.trans hwd
    refine sgo ?_
    (show WC _ _ _ _ _ _ _; first | refine WC_dec rfl (fun hc => ?_) (fun hc => ?_) | refine WC_cond rfl (fun hc => ?_) (fun hc => ?_))
    · refine sgo ?_
      (first | refine fp1 (.inl rfl) rfl rfl ?_ | refine fp2 (.inl rfl) rfl rfl rfl ?_ | refine fp3 (.inl rfl) rfl rfl rfl rfl ?_ | refine fp0 (.inr rfl) rfl ?_ | refine fp0 (.inl rfl) rfl ?_ | refine fp1 (.inr rfl) rfl rfl ?_); refine ⟨?_, by (first | exact Frm.refl _ | assumption | exact Go.Sv.Sep.frm (by assumption) | (refine Frm.trans ?_ (by assumption); first | exact Frm.refl _ | assumption))⟩; (try simp only [realB, rv_true, Nat.reduceBEq, cond_true, cond_false, entG, real_lif, updGL])
      rw [decide_eq_false]
      rintro rfl
      rw [hx] at hy
      obtain rfl := Option.some.inj hy
      revert hc; simp [pkb]
    · refine sgo ?_
      refine ⟨i + 1, ⟨rfl, rfl, rfl, rfl, trivial⟩, ⟨by omega, ?_, hfd⟩, by omega⟩
      have hxy : x = y := by
        rw [at_ext]
        revert hc; simp [pkb]
      rw [← hxy] at hy
      exact take_eq_succ htk hx hy
  · refine sgo ?_
    (first | refine fp1 (.inl rfl) rfl rfl ?_ | refine fp2 (.inl rfl) rfl rfl rfl ?_ | refine fp3 (.inl rfl) rfl rfl rfl rfl ?_ | refine fp0 (.inr rfl) rfl ?_ | refine fp0 (.inl rfl) rfl ?_ | refine fp1 (.inr rfl) rfl rfl ?_); refine ⟨?_, by (first | exact Frm.refl _ | assumption | exact Go.Sv.Sep.frm (by assumption) | (refine Frm.trans ?_ (by assumption); first | exact Frm.refl _ | assumption))⟩; (try simp only [realB, rv_true, Nat.reduceBEq, cond_true, cond_false, entG, real_lif, updGL])
    rw [decide_eq_true]
    rwa [List.take_of_length_le (by omega), List.take_of_length_le (by omega)] at htk















































































































def attrR (es : List At) (n : List UInt8) : Option At := es.find? fun x => decide (x.n = n)
def attrV (o : Option At) : Value := match o with | some x => .tuple #[str x.v, .bool true] | none => .tuple #[str [], .bool false]










































end Go.Proofs.YtcdogceabkpnmaaDoor

/-
  Chapter 21: Equal of trees, dom's and the document's.
-/
set_option linter.unusedSimpArgs false
set_option linter.unusedVariables false
set_option linter.unnecessarySimpa false
namespace Go.Proofs.YtcdogceabkpnmaaDoor
open Go Go.Sv Go.RowKit

instance ndDec : DecidableEq Nd := fun a b => decidable_of_iff (a.name = b.name ∧ a.text = b.text ∧ a.attrs = b.attrs ∧ a.kids = b.kids) ⟨fun h => by
  obtain ⟨n, t, es, ks⟩ := a
  obtain ⟨n2, t2, es2, ks2⟩ := b
  obtain ⟨h1, h2, h3, h4⟩ := h
  dsimp only at h1 h2 h3 h4
  rw [h1, h2, h3, h4], fun h => by rw [h]; exact ⟨rfl, rfl, rfl, rfl⟩⟩
theorem nds_eq_len {f g : FoM} (h : f.fo = g.fo) : f.len = g.len := by
  have h2 := congrArg List.length (fo_inj.1 h)
  rw [List.length_map, List.length_map] at h2
  exact h2
theorem nds_next {f g : FoM} {i : Nat} {m m2 : NdM} (hx : f.list[i]? = some m) (hy : g.list[i]? = some m2) :
    (m.nd ≠ m2.nd → f.fo ≠ g.fo) ∧ (m.nd = m2.nd → (f.list.map NdM.nd).take i = (g.list.map NdM.nd).take i → (f.list.map NdM.nd).take (i + 1) = (g.list.map NdM.nd).take (i + 1)) := by
  have hmx : (f.list.map NdM.nd)[i]? = some m.nd := by rw [List.getElem?_map, hx]; rfl
  have hmy : (g.list.map NdM.nd)[i]? = some m2.nd := by rw [List.getElem?_map, hy]; rfl
  refine ⟨fun h h2 => ?_, fun h hp => ?_⟩
  · rw [fo_inj.1 h2, hmy] at hmx
    exact h (Option.some.inj hmx).symm
  · rw [List.take_add_one, List.take_add_one, hmx, hmy, hp, h]
theorem nds_all {f g : FoM} (hl : f.len = g.len) (h : (f.list.map NdM.nd).take f.len = (g.list.map NdM.nd).take f.len) : f.fo = g.fo := by
  rw [List.take_of_length_le (by rw [List.length_map]; exact Nat.le_refl _), List.take_of_length_le (by rw [List.length_map, hl]; exact Nat.le_refl _)] at h
  exact fo_inj.2 h
set_option maxHeartbeats 4000000 in
theorem likeSame_ok (m m2 : NdM) (hs : m.small) (hs2 : m2.small) (w : World) (hi : Im [] w m.ap (m.attrs.flatMap At.cells)) (hj : Im [] w m2.ap (m2.attrs.flatMap At.cells))
    (hkd : ∀ w', Frm w w' → PureC Tryd.prog 27 #[.slice m.kp m.kids.len m.kc, .slice m2.kp m2.kids.len m2.kc] w' (.bool (decide (m.kids.fo = m2.kids.fo)))) :
    PureC Tryd.prog 54 #[.agg ⟨m.cells⟩, .agg ⟨m2.cells⟩] w (.bool (decide (m.nd = m2.nd))) := by
  have hnd := nd_eq m m2
  obtain ⟨n, t, es, ap, ac, ks, kp, kc⟩ := m
  obtain ⟨n2, t2, fs, bp, bc, ks2, kp2, kc2⟩ := m2
  have h1 := hs.attrs
  have h2 := hs2.attrs
  dsimp only at hi hj h1 h2 hkd hnd
  have hl1 := fm_len At.len es
  have hl2 := fm_len At.len fs
  refine enter (l := [.agg ⟨NdM.cells ⟨n, t, es, ap, ac, ks, kp, kc⟩⟩, .agg ⟨NdM.cells ⟨n2, t2, fs, bp, bc, ks2, kp2, kc2⟩⟩]) Tryd.func54 rfl Tryd.ntmps54 (by kernel_rfl) rfl ?_
  have hS := Sep.start w
  refine WC_seq ?_
  refine WC_region ?_
  refine sbox (v := .agg ⟨NdM.cells ⟨n, t, es, ap, ac, ks, kp, kc⟩⟩) hS fun b2 w1 hS => ?_
  replace hS : Sep w w1 [pOwn b2 [str n, str t, .slice ap es.length ac, .slice kp ks.len kc]] := hS
  refine sbox (v := .agg ⟨NdM.cells ⟨n2, t2, fs, bp, bc, ks2, kp2, kc2⟩⟩) hS fun b3 w2 hS => ?_
  replace hS : Sep w w2 [pOwn b3 [str n2, str t2, .slice bp fs.length bc, .slice kp2 ks2.len kc2], pOwn b2 [str n, str t, .slice ap es.length ac, .slice kp ks.len kc]] := hS
  refine sgo ?_
  (show WC _ _ _ _ _ _ _; first | refine WC_dec rfl (fun hc => ?_) (fun hc => ?_) | refine WC_cond rfl (fun hc => ?_) (fun hc => ?_))
  · have hne : ¬ NdM.nd ⟨n, t, es, ap, ac, ks, kp, kc⟩ = NdM.nd ⟨n2, t2, fs, bp, bc, ks2, kp2, kc2⟩ := by
      intro h
      obtain ⟨e1, e2, e3, e4⟩ := hnd.1 h
      subst e1 e2 e3
      simp [pkb_or] at hc
    refine sgo ?_
    (first | refine fp1 (.inl rfl) rfl rfl ?_ | refine fp2 (.inl rfl) rfl rfl rfl ?_ | refine fp3 (.inl rfl) rfl rfl rfl rfl ?_ | refine fp0 (.inr rfl) rfl ?_ | refine fp0 (.inl rfl) rfl ?_ | refine fp1 (.inr rfl) rfl rfl ?_); refine ⟨?_, by (first | exact Frm.refl _ | assumption | exact Go.Sv.Sep.frm (by assumption) | (refine Frm.trans ?_ (by assumption); first | exact Frm.refl _ | assumption))⟩; (try simp only [realB, rv_true, Nat.reduceBEq, cond_true, cond_false, entG, real_lif, updGL])
    rw [decide_eq_false hne]
  · simp only [pkb_or, Bool.or_eq_false_iff, decide_eq_false_iff_not, Decidable.not_not] at hc
    obtain ⟨⟨rfl, rfl⟩, hlen⟩ := hc
    have hle : es.length = fs.length := by omega
    clear hlen
    refine sgo ?_
    refine wcloop (X := Nat) (fun i => [(2, ptrAt (pb b2) 0), (3, ptrAt (pb b3) 0), (37, int es.length), (38, int i)])
      (fun i wr => i ≤ es.length ∧ es.take i = fs.take i ∧ Sep w wr [pOwn b3 [str n, str t, .slice bp fs.length bc, .slice kp2 ks2.len kc2], pOwn b2 [str n, str t, .slice ap es.length ac, .slice kp ks.len kc]]) (fun i => es.length - i) 0 ⟨rfl, rfl, rfl, rfl, trivial⟩ ⟨Nat.zero_le _, rfl, hS⟩ ?_
    clear hS
    rintro i wr ρ ⟨hil, hpre, hS⟩
    refine sgo ?_
    (show WC _ _ _ _ _ _ _; first | refine WC_dec rfl (fun hc => ?_) (fun hc => ?_) | refine WC_cond rfl (fun hc => ?_) (fun hc => ?_))
    · have hlt : i < es.length := by omega
      have hx : es[i]? = some es[i] := List.getElem?_eq_getElem hlt
      have hy : fs[i]? = some fs[i] := List.getElem?_eq_getElem (by omega)
      have hsx := att_at hx
      have hsy := att_at hy
      have hpa : ∃ a, ap = some a := hi.some (by omega)
      have hpb : ∃ a, bp = some a := hj.some (by omega)
      have htx : es.take (i + 1) = es.take i ++ [es[i]] := by rw [List.take_add_one, hx]; rfl
      have hty : fs.take (i + 1) = fs.take i ++ [fs[i]] := by rw [List.take_add_one, hy]; rfl
      generalize es[i] = x at *
      generalize fs[i] = y at *
      clear hc
      refine sgo ?_
      refine wcdraw ?_
      refine qgo ?_
      rw [hsx, hsy]
      refine ql (v := .bool (!(decide (x.n = y.n) && (decide (x.v = y.v) && true)))) ?_ (YQ.ofY fun w _ => y_aneq rfl rfl rfl)
      refine QL_nil ?_
      intro w3 hf3
      replace hS := hS.grow hf3
      obtain ⟨xn, xv⟩ := x
      obtain ⟨yn, yv⟩ := y
      refine sgo ?_
      (show WC _ _ _ _ _ _ _; first | refine WC_dec rfl (fun hc => ?_) (fun hc => ?_) | refine WC_cond rfl (fun hc => ?_) (fun hc => ?_))
      · have hne : ¬ NdM.nd ⟨n, t, es, ap, ac, ks, kp, kc⟩ = NdM.nd ⟨n, t, fs, bp, bc, ks2, kp2, kc2⟩ := by
          intro h
          obtain ⟨-, -, e3, -⟩ := hnd.1 h
          subst e3
          rw [hx] at hy
          injection hy with hy
          injection hy with e1 e2
          subst e1 e2
          simp at hc
        refine sgo ?_
        (first | refine fp1 (.inl rfl) rfl rfl ?_ | refine fp2 (.inl rfl) rfl rfl rfl ?_ | refine fp3 (.inl rfl) rfl rfl rfl rfl ?_ | refine fp0 (.inr rfl) rfl ?_ | refine fp0 (.inl rfl) rfl ?_ | refine fp1 (.inr rfl) rfl rfl ?_); refine ⟨?_, by (first | exact Frm.refl _ | assumption | exact Go.Sv.Sep.frm (by assumption) | (refine Frm.trans ?_ (by assumption); first | exact Frm.refl _ | assumption))⟩; (try simp only [realB, rv_true, Nat.reduceBEq, cond_true, cond_false, entG, real_lif, updGL])
        rw [decide_eq_false hne]
      · refine sgo ?_
        refine ⟨i + 1, ⟨rfl, rfl, rfl, rfl, trivial⟩, ⟨hlt, ?_, hS⟩, (by (try dsimp only); omega)⟩
        rw [htx, hty, hpre]
        simp at hc
        rw [hc.1, hc.2]
    · obtain rfl : i = es.length := by omega
      rw [List.take_length, hle, List.take_length] at hpre
      subst hpre
      refine sgo ?_
      refine wlpure (hkd _ hS.frm) fun w4 hf4 => ?_
      replace hS := hS.grow hf4
      refine sgo ?_
      (first | refine fp1 (.inl rfl) rfl rfl ?_ | refine fp2 (.inl rfl) rfl rfl rfl ?_ | refine fp3 (.inl rfl) rfl rfl rfl rfl ?_ | refine fp0 (.inr rfl) rfl ?_ | refine fp0 (.inl rfl) rfl ?_ | refine fp1 (.inr rfl) rfl rfl ?_); refine ⟨?_, by (first | exact Frm.refl _ | assumption | exact Go.Sv.Sep.frm (by assumption) | (refine Frm.trans ?_ (by assumption); first | exact Frm.refl _ | assumption))⟩; (try simp only [realB, rv_true, Nat.reduceBEq, cond_true, cond_false, entG, real_lif, updGL])
      exact congrArg Value.bool (decide_eq_decide.2 (hnd.trans ⟨fun h => h.2.2.2, fun h => ⟨rfl, rfl, rfl, h⟩⟩)).symm
set_option maxHeartbeats 4000000 in
theorem domEqual_ok : ∀ (k : Nat) (f g : FoM) (p q : Option Addr) (c dd : Nat), f.size < k → f.wt ≤ 1048576 → g.wt ≤ 1048576 → ∀ (w : World), Tre w p f → Tre w q g → PureC Tryd.prog 27 #[.slice p f.len c, .slice q g.len dd] w (.bool (decide (f.fo = g.fo))) := by
  intro k
  induction k with
  | zero => intro f g p q c dd hk; omega
  | succ k ih =>
    intro f g p q c dd hk hw hw2 w hT hT2
    have hlw := FoM.len_wt f
    have hlw2 := FoM.len_wt g
    have hS := Sep.start w
    refine enter (l := [.slice p f.len c, .slice q g.len dd]) Tryd.func27 rfl Tryd.ntmps27 (by kernel_rfl) rfl ?_
    refine sgo ?_
    (show WC _ _ _ _ _ _ _; first | refine WC_dec rfl (fun hc => ?_) (fun hc => ?_) | refine WC_cond rfl (fun hc => ?_) (fun hc => ?_))
    · have hne : f.fo ≠ g.fo := fun h => hc (by rw [nds_eq_len h])
      refine sgo ?_
      (first | refine fp1 (.inl rfl) rfl rfl ?_ | refine fp2 (.inl rfl) rfl rfl rfl ?_ | refine fp3 (.inl rfl) rfl rfl rfl rfl ?_ | refine fp0 (.inr rfl) rfl ?_ | refine fp0 (.inl rfl) rfl ?_ | refine fp1 (.inr rfl) rfl rfl ?_); refine ⟨?_, by (first | exact Frm.refl _ | assumption | exact Go.Sv.Sep.frm (by assumption) | (refine Frm.trans ?_ (by assumption); first | exact Frm.refl _ | assumption))⟩; (try simp only [realB, rv_true, Nat.reduceBEq, cond_true, cond_false, entG, real_lif, updGL])
      rw [decide_eq_false hne]
    have hlen : f.len = g.len := by
      have : ¬ ((f.len : Int) ≠ g.len) := by simpa using hc
      omega
    clear hc
    refine sgo ?_
    refine wcloop (X := Nat) (fun i => [(0, .slice p f.len c), (1, .slice q g.len dd), (12, int f.len), (13, int i)])
      (fun i wr => i ≤ f.len ∧ (f.list.map NdM.nd).take i = (g.list.map NdM.nd).take i ∧ Sep w wr []) (fun i => f.len - i) 0 ⟨rfl, rfl, rfl, rfl, trivial⟩ ⟨Nat.zero_le _, rfl, hS⟩ ?_
    clear hS
    rintro i wr ρ ⟨hil, hpre, hS⟩
    have hTr := hT.frm hS.frm
    have hTr2 := hT2.frm hS.frm
    have hIm := hTr.im
    have hIm2 := hTr2.im
    refine sgo ?_
    (show WC _ _ _ _ _ _ _; first | refine WC_dec rfl (fun hc => ?_) (fun hc => ?_) | refine WC_cond rfl (fun hc => ?_) (fun hc => ?_))
    · have hlt : i < f.len := by omega
      have hlt2 : i < g.len := by omega
      obtain ⟨m, hx, hm, hseg, hfl, hps, hat, hkT⟩ := tre_at hTr hlt
      obtain ⟨m2, hx2, hm2, hseg2, hfl2, hqs, hat2, hkT2⟩ := tre_at hTr2 hlt2
      have hsz := FoM.size_mem hm
      have hsm := nd_small hw hm
      have hsm2 := nd_small hw2 hm2
      obtain ⟨hnf, hnx⟩ := nds_next hx hx2
      have hsame := fun w' (h : Frm wr w') => likeSame_ok m m2 hsm hsm2 w' (hat.frm h) (hat2.frm h) (fun w2 h2 => ih m.kids m2.kids m.kp m2.kp m.kc m2.kc (by omega) hsm.kids hsm2.kids w2 (hkT.frm (h.trans h2)) (hkT2.frm (h.trans h2)))
      clear hc
      refine sgo ?_
      refine wcdraw ?_
      refine qgo ?_
      rw [hseg]
      refine ql (v := .agg ⟨m.cells⟩) ?_ (YQ.ofY fun _ _ => y_build (cells := m.cells) (by rw [bm1 (v := .agg ⟨m.cells⟩) rfl]; rfl))
      refine ql (v := .agg ⟨m.cells⟩) ?_ (YQ.ofY fun _ _ => y_build (cells := m.cells) (by rw [bm1 (v := .agg ⟨m.cells⟩) rfl]; rfl))
      refine qgo ?_
      rw [hseg2]
      refine qlcallp (v := .bool (decide (m.nd = m2.nd))) (fun w' hw' => ?_) ?_
      · exact hsame w' hw'
      refine qgo ?_
      refine QL_nil ?_; intro wd hwd
      replace hS := hS.grow hwd
      refine sgo ?_
      (show WC _ _ _ _ _ _ _; first | refine WC_dec rfl (fun hc => ?_) (fun hc => ?_) | refine WC_cond rfl (fun hc => ?_) (fun hc => ?_))
      · have hne : m.nd ≠ m2.nd := by simpa using hc
        refine sgo ?_
        (first | refine fp1 (.inl rfl) rfl rfl ?_ | refine fp2 (.inl rfl) rfl rfl rfl ?_ | refine fp3 (.inl rfl) rfl rfl rfl rfl ?_ | refine fp0 (.inr rfl) rfl ?_ | refine fp0 (.inl rfl) rfl ?_ | refine fp1 (.inr rfl) rfl rfl ?_); refine ⟨?_, by (first | exact Frm.refl _ | assumption | exact Go.Sv.Sep.frm (by assumption) | (refine Frm.trans ?_ (by assumption); first | exact Frm.refl _ | assumption))⟩; (try simp only [realB, rv_true, Nat.reduceBEq, cond_true, cond_false, entG, real_lif, updGL])
        rw [decide_eq_false (hnf hne)]
      · have he : m.nd = m2.nd := by simpa using hc
        refine sgo ?_
        exact ⟨i + 1, ⟨rfl, rfl, rfl, rfl, trivial⟩, ⟨hlt, hnx he hpre, hS⟩, (by (try dsimp only); omega)⟩
    · obtain rfl : i = f.len := by omega
      refine sgo ?_
      (first | refine fp1 (.inl rfl) rfl rfl ?_ | refine fp2 (.inl rfl) rfl rfl rfl ?_ | refine fp3 (.inl rfl) rfl rfl rfl rfl ?_ | refine fp0 (.inr rfl) rfl ?_ | refine fp0 (.inl rfl) rfl ?_ | refine fp1 (.inr rfl) rfl rfl ?_); refine ⟨?_, by (first | exact Frm.refl _ | assumption | exact Go.Sv.Sep.frm (by assumption) | (refine Frm.trans ?_ (by assumption); first | exact Frm.refl _ | assumption))⟩; (try simp only [realB, rv_true, Nat.reduceBEq, cond_true, cond_false, entG, real_lif, updGL])
      rw [decide_eq_true (nds_all hlen hpre)]
end Go.Proofs.YtcdogceabkpnmaaDoor

/-
  Chapter 21: sieveref21: Equal, Depth, Count.
-/
set_option linter.unusedSimpArgs false
set_option linter.unusedVariables false
set_option linter.unnecessarySimpa false
namespace Go.Proofs.YtcdogceabkpnmaaDoor
open Go Go.Sv Go.RowKit

theorem nd_get {L : List NdM} {i : Nat} {m : NdM} (hx : L[i]? = some m) : (L.flatMap NdM.cells)[i * 4]? = some (str m.name) ∧ (L.flatMap NdM.cells)[i * 4 + 1]? = some (str m.text) ∧ (L.flatMap NdM.cells)[i * 4 + 2]? = some (.slice m.ap m.attrs.length m.ac) ∧ (L.flatMap NdM.cells)[i * 4 + 3]? = some (.slice m.kp m.kids.len m.kc) := by
  have g0 := fm_get NdM.clen L i 0 (by decide)
  have g1 := fm_get NdM.clen L i 1 (by decide)
  have g2 := fm_get NdM.clen L i 2 (by decide)
  have g3 := fm_get NdM.clen L i 3 (by decide)
  rw [hx] at g0 g1 g2 g3
  exact ⟨g0, g1, g2, g3⟩
set_option maxHeartbeats 4000000 in
theorem refEqual21_ok : ∀ (k : Nat) (f g : FoM) (p q : Option Addr) (c dd : Nat), f.size < k → f.wt ≤ 1048576 → g.wt ≤ 1048576 → ∀ (w : World), Tre w p f → Tre w q g → PureC Tryd.prog 14 #[.slice p f.len c, .slice q g.len dd] w (.bool (decide (f.fo = g.fo))) := by
  intro k
  induction k with
  | zero => intro f g p q c dd hk; omega
  | succ k ih =>
    intro f g p q c dd hk hw hw2 w hT hT2
    have hlw := FoM.len_wt f
    have hlw2 := FoM.len_wt g
    have hS := Sep.start w
    refine enter (l := [.slice p f.len c, .slice q g.len dd]) Tryd.func14 rfl Tryd.ntmps14 (by kernel_rfl) rfl ?_
    refine sgo ?_
    (show WC _ _ _ _ _ _ _; first | refine WC_dec rfl (fun hc => ?_) (fun hc => ?_) | refine WC_cond rfl (fun hc => ?_) (fun hc => ?_))
    · have hne : f.fo ≠ g.fo := fun h => hc (by rw [nds_eq_len h])
      refine sgo ?_
      (first | refine fp1 (.inl rfl) rfl rfl ?_ | refine fp2 (.inl rfl) rfl rfl rfl ?_ | refine fp3 (.inl rfl) rfl rfl rfl rfl ?_ | refine fp0 (.inr rfl) rfl ?_ | refine fp0 (.inl rfl) rfl ?_ | refine fp1 (.inr rfl) rfl rfl ?_); refine ⟨?_, by (first | exact Frm.refl _ | assumption | exact Go.Sv.Sep.frm (by assumption) | (refine Frm.trans ?_ (by assumption); first | exact Frm.refl _ | assumption))⟩; (try simp only [realB, rv_true, Nat.reduceBEq, cond_true, cond_false, entG, real_lif, updGL])
      rw [decide_eq_false hne]
    have hlen : f.len = g.len := by
      have : ¬ ((f.len : Int) ≠ g.len) := by simpa using hc
      omega
    clear hc
    refine sgo ?_
    refine wcloop (X := Nat) (fun i => [(0, .slice p f.len c), (1, .slice q g.len dd), (12, int f.len), (13, int i)])
      (fun i wr => i ≤ f.len ∧ (f.list.map NdM.nd).take i = (g.list.map NdM.nd).take i ∧ Sep w wr []) (fun i => f.len - i) 0 ⟨rfl, rfl, rfl, rfl, trivial⟩ ⟨Nat.zero_le _, rfl, hS⟩ ?_
    clear hS
    rintro i wr ρ ⟨hil, hpre, hS⟩
    have hTr := hT.frm hS.frm
    have hTr2 := hT2.frm hS.frm
    have hIm := hTr.im
    have hIm2 := hTr2.im
    refine sgo ?_
    (show WC _ _ _ _ _ _ _; first | refine WC_dec rfl (fun hc => ?_) (fun hc => ?_) | refine WC_cond rfl (fun hc => ?_) (fun hc => ?_))
    · have hlt : i < f.len := by omega
      have hlt2 : i < g.len := by omega
      obtain ⟨m, hx, hm, hseg, hfl, hps, hat, hkT⟩ := tre_at hTr hlt
      obtain ⟨m2, hx2, hm2, hseg2, hfl2, hqs, hat2, hkT2⟩ := tre_at hTr2 hlt2
      have hsz := FoM.size_mem hm
      have hsm := nd_small hw hm
      have hsm2 := nd_small hw2 hm2
      obtain ⟨hnf, hnx⟩ := nds_next hx hx2
      obtain ⟨g0, g1, g2, g3⟩ := nd_get hx
      obtain ⟨k0, k1, k2, k3⟩ := nd_get hx2
      have hih := fun w' (h : Frm wr w') => ih m.kids m2.kids m.kp m2.kp m.kc m2.kc (by omega) hsm.kids hsm2.kids w' (hkT.frm h) (hkT2.frm h)
      have hsa := fun w' (h : Frm wr w') => sameAttrs_ok m.attrs m2.attrs m.ap m2.ap m.ac m2.ac hsm.attrs hsm2.attrs w' (hat.frm h) (hat2.frm h)
      have hnd := nd_eq m m2
      obtain ⟨n, t, es, ap, ac, ks, kp, kc⟩ := m
      obtain ⟨n2, t2, fs, bp, bc, ks2, kp2, kc2⟩ := m2
      dsimp only at *
      clear hc
      refine sgo ?_
      refine wcdraw ?_
      refine qgo ?_
      refine qlcallgp (vals := [.slice ap es.length ac, .slice bp fs.length bc]) (v := .bool (decide (es = fs))) (fun hg w' hw' => hsa w' hw') ?_
      refine qgo ?_
      refine QL_nil ?_; intro wd hwd
      replace hS := hS.grow hwd
      refine sgo ?_
      (show WC _ _ _ _ _ _ _; first | refine WC_dec rfl (fun hc => ?_) (fun hc => ?_) | refine WC_cond rfl (fun hc => ?_) (fun hc => ?_))
      · have hne : ¬ NdM.nd ⟨n, t, es, ap, ac, ks, kp, kc⟩ = NdM.nd ⟨n2, t2, fs, bp, bc, ks2, kp2, kc2⟩ := by
          intro h
          obtain ⟨e1, e2, e3, e4⟩ := hnd.1 h
          subst e1 e2 e3
          simp [pkb_or] at hc
        refine sgo ?_
        (first | refine fp1 (.inl rfl) rfl rfl ?_ | refine fp2 (.inl rfl) rfl rfl rfl ?_ | refine fp3 (.inl rfl) rfl rfl rfl rfl ?_ | refine fp0 (.inr rfl) rfl ?_ | refine fp0 (.inl rfl) rfl ?_ | refine fp1 (.inr rfl) rfl rfl ?_); refine ⟨?_, by (first | exact Frm.refl _ | assumption | exact Go.Sv.Sep.frm (by assumption) | (refine Frm.trans ?_ (by assumption); first | exact Frm.refl _ | assumption))⟩; (try simp only [realB, rv_true, Nat.reduceBEq, cond_true, cond_false, entG, real_lif, updGL])
        rw [decide_eq_false (hnf hne)]
      · simp [pkb_or] at hc
        obtain ⟨⟨rfl, rfl⟩, rfl⟩ := hc
        have hTq := hTr.frm hwd
        have hTq2 := hTr2.frm hwd
        have hImq := hTq.im
        have hImq2 := hTq2.im
        refine sgo ?_
        refine wcdraw ?_
        refine qgo ?_
        refine qlcallp (v := .bool (decide (ks.fo = ks2.fo))) (fun w' hw' => ?_) ?_
        · exact hih w' (hwd.trans hw')
        refine qgo ?_
        refine QL_nil ?_
        intro w4 hf4
        replace hS := hS.grow hf4
        refine sgo ?_
        (show WC _ _ _ _ _ _ _; first | refine WC_dec rfl (fun hc => ?_) (fun hc => ?_) | refine WC_cond rfl (fun hc => ?_) (fun hc => ?_))
        · have hne : ¬ NdM.nd ⟨n, t, es, ap, ac, ks, kp, kc⟩ = NdM.nd ⟨n, t, es, bp, bc, ks2, kp2, kc2⟩ := by
            intro h
            obtain ⟨e1, e2, e3, e4⟩ := hnd.1 h
            simp [e4] at hc
          refine sgo ?_
          (first | refine fp1 (.inl rfl) rfl rfl ?_ | refine fp2 (.inl rfl) rfl rfl rfl ?_ | refine fp3 (.inl rfl) rfl rfl rfl rfl ?_ | refine fp0 (.inr rfl) rfl ?_ | refine fp0 (.inl rfl) rfl ?_ | refine fp1 (.inr rfl) rfl rfl ?_); refine ⟨?_, by (first | exact Frm.refl _ | assumption | exact Go.Sv.Sep.frm (by assumption) | (refine Frm.trans ?_ (by assumption); first | exact Frm.refl _ | assumption))⟩; (try simp only [realB, rv_true, Nat.reduceBEq, cond_true, cond_false, entG, real_lif, updGL])
          rw [decide_eq_false (hnf hne)]
        · have he : NdM.nd ⟨n, t, es, ap, ac, ks, kp, kc⟩ = NdM.nd ⟨n, t, es, bp, bc, ks2, kp2, kc2⟩ := hnd.2 ⟨rfl, rfl, rfl, by simpa using hc⟩
          refine sgo ?_
          exact ⟨i + 1, ⟨rfl, rfl, rfl, rfl, trivial⟩, ⟨hlt, hnx he hpre, hS⟩, (by (try dsimp only); omega)⟩
    · obtain rfl : i = f.len := by omega
      refine sgo ?_
      (first | refine fp1 (.inl rfl) rfl rfl ?_ | refine fp2 (.inl rfl) rfl rfl rfl ?_ | refine fp3 (.inl rfl) rfl rfl rfl rfl ?_ | refine fp0 (.inr rfl) rfl ?_ | refine fp0 (.inl rfl) rfl ?_ | refine fp1 (.inr rfl) rfl rfl ?_); refine ⟨?_, by (first | exact Frm.refl _ | assumption | exact Go.Sv.Sep.frm (by assumption) | (refine Frm.trans ?_ (by assumption); first | exact Frm.refl _ | assumption))⟩; (try simp only [realB, rv_true, Nat.reduceBEq, cond_true, cond_false, entG, real_lif, updGL])
      rw [decide_eq_true (nds_all hlen hpre)]
end Go.Proofs.YtcdogceabkpnmaaDoor

