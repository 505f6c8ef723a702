/-
  Our texts SvNm, SvMend, SvMendB, SvIter, SvRunes, SvRunesB, SvMendC, SvPl1, SvLkA, SvLkB, SvLkC, SvLkD, SvLn, SvIn, SvInL, SvInN, SvInM, SvNsA, SvNsB, SvNsC, SvRf, SvEvC, SvEvN, SvTabF, SvKp, SvCtx, SvNsD, SvNsE, SvJmp, joined.
-/
import Derived.Test.YtmnnffenijjpcaaGreatDoorMg3
import Derived.Laws.Cover4
import Derived.Laws.MakeOwn
import Derived.Lib.LaidTab
import Derived.ScopeJumps
/-
  Packages names and sieveref04: classes of bytes, small letters. Blocks of bytes that []byte(s) made.
-/
set_option linter.unusedSimpArgs false
set_option linter.unusedVariables false
set_option linter.unnecessarySimpa false
namespace Go.Sv
open Go Go.RowKit
/-- a block that holds the bytes s and may be written there -/
def OwnB (w : World) (b : Nat) (s : List UInt8) : Prop := ∃ C ty lo hi, w.heap[b]? = some (.cells C ty (lo, hi)) ∧ C.toList.take s.length = bs s ∧ s.length ≤ lo
section
variable {P : Program} {w w' : World} {b i : Nat} {s : List UInt8}
theorem OwnB.lt (h : OwnB w b s) : b < w.heap.size := by
  obtain ⟨C, ty, lo, hi, h, _⟩ := h
  exact (Array.getElem?_eq_some_iff.1 h).1
theorem OwnB.le {M : List Nat} (h : OwnB w b s) (hl : Le M w w') (hb : b ∉ M) : OwnB w' b s := by
  have := h.lt
  obtain ⟨C, ty, lo, hi, h, h2⟩ := h
  exact ⟨C, ty, lo, hi, by rw [hl.block b this hb]; exact h, h2⟩
theorem OwnB.frm (h : OwnB w b s) (hl : Frm w w') : OwnB w' b s := h.le (M := []) hl.le (by simp)
theorem OwnB.sg (h : OwnB w b s) : Sg w (pb b) (bs s) := by
  obtain ⟨C, ty, lo, hi, h, h2, _⟩ := h
  refine .inr ⟨_, rfl, fun i hi' => ?_⟩
  have e : (⟨b, 0, none⟩ : Addr).add i = ⟨b, i, none⟩ := by unfold Addr.add; split <;> simp_all
  rw [e, cell_of_row w b i C ty _ h, ← h2]
  rw [List.getElem?_take_of_lt (by simpa using hi')]
  simp
theorem OwnB.im {M : List Nat} (h : OwnB w b s) (hb : b ∉ M) : Im M w (pb b) (bs s) := by
  rcases h.sg with hh | ⟨a, ha, h1⟩
  · exact .inl hh
  · obtain rfl := Option.some.inj ha
    exact .inr ⟨_, rfl, h1, h.lt, hb⟩
end
section
variable {P : Program} {n : Nat} {ds : Ctx} {ops : Array Oper} {Q : Exit → Ctx → Env → World → Prop} {rest : List Oper} {σ : GE} {w : World} {d : Nat} {ty t t' e : TypeId} {pos : String} {af : Array Edge} {x y : Operand} {zv : Value} {size bytes : Nat} {b i : Nat} {s : List UInt8}
end
end Go.Sv
namespace Go.Proofs.YtmnnffenijjpcaaGreatDoor
open Go Go.Sv Go.RowKit

def upperR (c : Nat) : Bool := decide (65 ≤ c) && decide (c ≤ 90)
def letterR (c : Nat) : Bool := upperR c || (decide (97 ≤ c) && decide (c ≤ 122))
def digitR (c : Nat) : Bool := decide (48 ≤ c) && decide (c ≤ 57)
def valueR (c : Nat) : Int := if digitR c then (c : Int) - 48 else if 97 ≤ c ∧ c ≤ 102 then (c : Int) - 97 + 10 else if 65 ≤ c ∧ c ≤ 70 then (c : Int) - 65 + 10 else -1
def hexR (c : Nat) : Bool := decide (0 ≤ valueR c)
def lowN (c : Nat) : Nat := if upperR c then c + 32 else c
def lowR (l : List UInt8) : List UInt8 := l.map fun c => UInt8.ofNat (lowN c.toNat)




















































































































































/-- the first i bytes are small -/
def lowTo (l : List UInt8) (i : Nat) : List UInt8 := lowR (l.take i) ++ l.drop i
end Go.Proofs.YtmnnffenijjpcaaGreatDoor

/-
  Texts mended: what that is; package sieveref01's Mend, walked.
-/
set_option linter.unusedSimpArgs false
set_option linter.unusedVariables false
set_option linter.unnecessarySimpa false
namespace Go.Proofs.YtmnnffenijjpcaaGreatDoor
open Go Go.Sv Go.RowKit

/-- a rune that is a character -/
def Good (r : Nat) : Prop := r < 1114112 ∧ ¬ (55296 ≤ r ∧ r ≤ 57343)
def runesN (l : List UInt8) : List Nat := (piecesR l).map fun x => x.r.toNat
/-- a text mended -/
def mendR (l : List UInt8) : List UInt8 := (runesN l).flatMap encR
theorem pieceR_good (l : List UInt8) (h0 : 0 < l.length) : ∃ r : Nat, (pieceR l).1 = (r : Int) ∧ Good r := by
  cases hr : (pieceR l).2.2 with
  | true =>
    obtain ⟨r, h1, h2, h3, _⟩ := enc_right l h0 (right_of l hr)
    exact ⟨r, h1, h2, h3⟩
  | false =>
    refine ⟨65533, ?_, by decide, by decide⟩
    have : (goodR l).2 = false := hr
    simp [pieceR, this]
theorem piecesF_good : ∀ (f a : Nat) (l : List UInt8), ∀ x ∈ piecesF f a l, ∃ r : Nat, x.r = (r : Int) ∧ Good r
  | 0, _, _ => by simp [piecesF]
  | f + 1, a, l => by
    simp only [piecesF]
    split
    · simp
    · rename_i hne
      intro x hx
      rcases List.mem_cons.1 hx with rfl | hx
      · exact pieceR_good l (List.length_pos_iff.2 hne)
      · exact piecesF_good f _ _ x hx
theorem runesN_good (l : List UInt8) : ∀ r ∈ runesN l, Good r := by
  intro r hr
  unfold runesN at hr
  obtain ⟨x, hx, rfl⟩ := List.mem_map.1 hr
  obtain ⟨r, h, hg⟩ := piecesF_good _ _ _ x hx
  rw [h]; exact hg
theorem encN_len (r : Nat) : 1 ≤ (encN r).length ∧ (encN r).length ≤ 4 := by
  unfold encN
  repeat' split
  all_goals simp
theorem encR_len4 (r : Nat) : 1 ≤ (encR r).length ∧ (encR r).length ≤ 4 := by rw [encR_len]; exact encN_len r
theorem piecesF_r : ∀ (f f' a a' : Nat) (l : List UInt8), l.length ≤ f → l.length ≤ f' → (piecesF f a l).map (fun x => x.r.toNat) = (piecesF f' a' l).map fun x => x.r.toNat
  | 0, f', a, a', l, h, _ => by
    have : l = [] := List.eq_nil_of_length_eq_zero (by omega)
    subst this
    cases f' <;> simp [piecesF]
  | f + 1, 0, a, a', l, _, h => by
    have : l = [] := List.eq_nil_of_length_eq_zero (by omega)
    subst this
    simp [piecesF]
  | f + 1, f' + 1, a, a', l, h, h' => by
    simp only [piecesF]
    split
    · rfl
    · rename_i hne
      have := pieceR_rng l (List.length_pos_iff.2 hne)
      simp only [List.map_cons]
      rw [piecesF_r f f' _ (a' + (pieceR l).2.1) _ (by simp; omega) (by simp; omega)]
theorem runesN_cons (l : List UInt8) (h0 : 0 < l.length) : runesN l = (pieceR l).1.toNat :: runesN (l.drop (pieceR l).2.1) := by
  have hrg := pieceR_rng l h0
  unfold runesN piecesR
  obtain ⟨f, hf⟩ : ∃ f, l.length = f + 1 := ⟨l.length - 1, by omega⟩
  have hne : l ≠ [] := List.length_pos_iff.1 h0
  rw [hf, piecesF, if_neg hne, List.map_cons]
  congr 1
  exact piecesF_r f _ _ 0 _ (by simp; omega) (Nat.le_refl _)
theorem mendR_cons (l : List UInt8) (h0 : 0 < l.length) : mendR l = encR (pieceR l).1.toNat ++ mendR (l.drop (pieceR l).2.1) := by
  unfold mendR
  rw [runesN_cons l h0, List.flatMap_cons]
/-- what is right stays -/
theorem mendR_valid : ∀ (n : Nat) (l : List UInt8), l.length ≤ n → validR l = true → mendR l = l
  | 0, l, h, _ => by
    have : l = [] := List.eq_nil_of_length_eq_zero (by omega)
    subst this; rfl
  | n + 1, l, h, hv => by
    rcases Nat.eq_zero_or_pos l.length with h0 | h0
    · have : l = [] := List.eq_nil_of_length_eq_zero h0
      subst this; rfl
    · obtain ⟨hr, hv2⟩ := valid_step l h0 hv
      obtain ⟨r, h1, _, _, h4, _⟩ := enc_right l h0 hr
      have hrg := pieceR_rng l h0
      rw [mendR_cons l h0, mendR_valid n _ (by simp; omega) hv2, h1, Int.toNat_natCast, h4, List.take_append_drop]
theorem mendR_id {l : List UInt8} (hv : validR l = true) : mendR l = l := mendR_valid _ l (Nat.le_refl _) hv

def charR (r : Int) : Bool := decide (0 ≤ r ∧ r ≤ 1114111 ∧ (r < 55296 ∨ 57343 < r))
/-- a new slice of bytes -/
def NewB (w : World) (s : List UInt8) (v : Value) (w' : World) : Prop := Frm w w' ∧ ∃ q cc, v = .slice q s.length cc ∧ Row w' 1 q s.length cc (bs s) ∧ ∀ x ∈ rb q, w.heap.size ≤ x
end Go.Proofs.YtmnnffenijjpcaaGreatDoor

/-
  Package sieveref01: Bytes, Text, Runes, Mend.
-/
set_option linter.unusedSimpArgs false
set_option linter.unusedVariables false
set_option linter.unnecessarySimpa false
namespace Go.Proofs.YtmnnffenijjpcaaGreatDoor
open Go Go.Sv Go.RowKit

/-- runes as cells -/
def rs32 (rs : List Nat) : List Value := rs.map fun n : Nat => i32 n
/-- a new slice of runes -/
def NewR (w : World) (rs : List Nat) (v : Value) (w' : World) : Prop := Frm w w' ∧ ∃ q cc, v = .slice q rs.length cc ∧ Row w' 1 q rs.length cc (rs32 rs) ∧ ∀ x ∈ rb q, w.heap.size ≤ x







































































end Go.Proofs.YtmnnffenijjpcaaGreatDoor

/-
  Loops over functions; calls of function values.
-/
set_option linter.unusedSimpArgs false
set_option linter.unusedVariables false
set_option linter.unnecessarySimpa false
namespace Go.Sv
open Go Go.RowKit

/-- a loop's record -/
def LoopAt (w : World) (l : Nat) (r : Loop) : Prop := w.heap[l]? = some (.loop r)
theorem LoopAt.lt {w : World} {l : Nat} {r : Loop} (h : LoopAt w l r) : l < w.heap.size := (Array.getElem?_eq_some_iff.1 h).1
theorem LoopAt.le {w w' : World} {M : List Nat} {l : Nat} {r : Loop} (h : LoopAt w l r) (hl : Le M w w') (hm : l ∉ M) : LoopAt w' l r := (hl.block l h.lt hm).trans h
theorem LoopAt.frm {w w' : World} {l : Nat} {r : Loop} (h : LoopAt w l r) (hl : Frm w w') : LoopAt w' l r := h.le (M := []) hl.le (by simp)
/-- the block of a loop's deferred calls: there are none -/
def NoDef (w : World) (D : Nat) : Prop := w.heap[D]? = some (.deferred (some []))
theorem NoDef.lt {w : World} {D : Nat} (h : NoDef w D) : D < w.heap.size := (Array.getElem?_eq_some_iff.1 h).1
theorem NoDef.le {w w' : World} {M : List Nat} {D : Nat} (h : NoDef w D) (hl : Le M w w') (hm : D ∉ M) : NoDef w' D := (hl.block D h.lt hm).trans h
theorem NoDef.frm {w w' : World} {D : Nat} (h : NoDef w D) (hl : Frm w w') : NoDef w' D := h.le (M := []) hl.le (by simp)
theorem le_putObj (w : World) (l : Nat) (o : Obj) : Le [l] w (w.putObj l o) := ⟨rfl, rfl, rfl, by simp, fun k _ hk => World.putObj_heap_other (by simpa using hk)⟩

/-- yield, called with 'args': it answers a bool, and R holds then -/
def Yld (P : Program) (l : Nat) (args : List Value) (w : World) (R : Bool → World → Prop) : Prop :=
  ∃ r, LoopAt w l r ∧ args.toArray.size = r.params.size ∧ RoundIn Fence.wide 0 P l r.fn ((r.params.zip args.toArray).foldl (fun tmps (t, a) => tmps.setIfInBounds t a) r.tmps) r.assign r.body w fun e w' => ∃ b, e = .returned (.bool b) ∧ R b w'
theorem Yld.mono {P : Program} {l : Nat} {args : List Value} {w : World} {R R' : Bool → World → Prop} (h : Yld P l args w R) (hr : ∀ b w', R b w' → R' b w') : Yld P l args w R' := by
  obtain ⟨r, h1, h2, h3⟩ := h
  exact ⟨r, h1, h2, h3.mono fun _ _ ⟨b, he, hb⟩ => ⟨b, he, hr _ _ hb⟩⟩

theorem roundIn_fen {ro : Option Nat} {m n : Nat} {P : Program} {l : Nat} {f : FuncId} {tmps : Array Value} {assign body : Code} {w : World} {R : Ending → World → Prop} (h : RoundIn Fence.wide m P l f tmps assign body w R) : RoundIn (fen ro) n P l f tmps assign body w R := by
  refine ⟨fen_fn ro f, fun c cs _ => ?_⟩
  obtain ⟨e, w', hR, hs⟩ := h.2 c cs (room_wide _)
  cases ro <;> exact ⟨e, w', hR, hs⟩

section
variable {P : Program} {n : Nat} {ds : Ctx} {ops : Array Oper} {Q : Exit → Ctx → Env → World → Prop} {rest : List Oper} {σ : GE} {w : World} {v : Value} {d : Nat} {ty : TypeId} {pos : String} {af : Array Edge} {l : Nat} {xs : List Operand} {ats : Array TypeId} {x : Operand}
theorem run_call_yield {σ : Env} {dd : Option Tmp} {g : Option (Nat × Bool)} {r : Loop} {args : List Value} (hx : evl σ x = .func (.yield l) #[] #[]) (ha : xs.map (evl σ) = args) (hl : LoopAt w l r) (hs : args.toArray.size = r.params.size) :
    (execOp (evl σ) ⟨dd, .call ⟨.value x, xs.toArray, ats⟩, ty, pos, af, g⟩).run P w = .ok (.round l r.fn ((r.params.zip args.toArray).foldl (fun tmps (t, a) => tmps.setIfInBounds t a) r.tmps) r.assign r.body) w := by
  subst ha
  simp only [execOp, resolve, hx, Deferred.ofValue]
  simp only [Sem.run_bind, Sem.run_pure, Result.andThen_ok, invoke]
  have := run_yield (P := P) hl hs
  simpa using this
/-- a call of yield -/
theorem wlyield {args : List Value} {R : Bool → World → Prop} (hy : Yld P l args w R) (h : ∀ b w', R b w' → WL P n ds ops Q rest (real (updG σ d ⟨.bool b, true⟩)) w')
    (hx : evl (real σ) x = .func (.yield l) #[] #[] := by rfl) (ha : xs.map (evl (real σ)) = args := by first | rfl | exact am1 rfl | exact am2 rfl rfl) :
    WL P n ds ops Q (⟨some d, .call ⟨.value x, xs.toArray, ats⟩, ty, pos, af, none⟩ :: rest) (real σ) w := by
  obtain ⟨r, h1, h2, h3⟩ := hy
  refine WL_upon (by simp [Region.wanted]) fun hin K hK _ => ?_
  have hd := operIn_dst hin
  rw [run_call_yield hx ha h1 h2, Oper.uponIn_round]
  refine ⟨fun hx => (by rw [fen_depth] at hx; cases hx), roundIn_fen (m := 0) (h3.mono ?_)⟩
  rintro e w' ⟨b, rfl, hb⟩
  show K _ _
  rw [act_put hd]
  have := h b w' hb
  rw [← real_upd] at this
  exact hK _ _ this
/-- a call of a function value -/
theorem run_call_fv {σ : Env} {dd : Option Tmp} {g : Option (Nat × Bool)} {f : FuncId} [hf : Fnc P f] {first cap args : List Value} (hx : evl σ x = .func (.func f) ⟨first⟩ ⟨cap⟩) (ha : xs.map (evl σ) = args) :
    (execOp (evl σ) ⟨dd, .call ⟨.value x, xs.toArray, ats⟩, ty, pos, af, g⟩).run P w = .ok (.enter f (first ++ args ++ cap).toArray) w := by
  subst ha
  simp only [execOp, resolve, hx, Deferred.ofValue]
  simp only [Sem.run_bind, Sem.run_pure, Result.andThen_ok, invoke]
  have := run_callFunc (P := P) (f := f) (first ++ xs.map (evl σ) ++ cap).toArray w
  simpa using this
theorem wlcallv {f : FuncId} [hf : Fnc P f] {first cap args : List Value} {R : Value → World → Prop} (hc : CallsR P f (first ++ args ++ cap).toArray w R) (h : ∀ v w', R v w' → WL P n ds ops Q rest (real (updG σ d ⟨v, true⟩)) w')
    (hx : evl (real σ) x = .func (.func f) ⟨first⟩ ⟨cap⟩ := by rfl) (ha : xs.map (evl (real σ)) = args := by first | rfl | exact am1 rfl | exact am2 rfl rfl) :
    WL P n ds ops Q (⟨some d, .call ⟨.value x, xs.toArray, ats⟩, ty, pos, af, none⟩ :: rest) (real σ) w :=
  WL_enter (S := fun _ _ => False) (by simp [Region.wanted]) (run_call_fv hx ha) (Calls.mono hc fun _ _ h => .inl h) (fun v w' hR => by have := h v w' hR; rw [← real_upd] at this; exact this) fun _ _ h => h.elim
end

/-! ## the statement -/
/-- what a round leaves of the record -/
def rndP (rec : LoopState → Option Code → Loop) (l : Nat) (R : Bool → World → Prop) : Exit → Ctx → Env → World → Prop
  | .normal, _, _, w => LoopAt w l (rec .busy none) ∧ ∀ w', Le [l] w w' → LoopAt w' l (rec .ready none) → R true w'
  | .ret, _, _, w => LoopAt w l (rec .busy none) ∧ ∀ w', Le [l] w w' → LoopAt w' l (rec .done (some .ret)) → R false w'
  | .exit id, _, _, w => LoopAt w l (rec .busy none) ∧ ∀ w', Le [l] w w' → LoopAt w' l (rec .done (some (.exit id))) → R false w'
  | _, _, _, _ => False
/-- what follows the loop, by what a round left it for -/
def aftP (P : Program) (Q : Exit → Ctx → Env → World → Prop) (c : Ctx) (σ : Env) (w : World) : Option Code → Prop
  | none => Q .normal c σ w
  | some .ret => Q .ret c σ w
  | some (.exit id) => Q (.exit id) c σ w
  | some _ => False
section
variable {P : Program} {n : Nat} {ds : Ctx} {Q : Exit → Ctx → Env → World → Prop} {σ : GE} {w : World} {l D : Nat} {assign body : Code} {ps : List Tmp}
/-- the frame's slots with yield's arguments -/
def updZ (σ : Env) : List Tmp → List Value → Env
  | p :: ps, v :: vs => updZ (upd σ p v) ps vs
  | _, _ => σ
theorem zip_put (dd : List Deferred) : ∀ (ps : List Tmp) (vs : List Value) (σ : Env), ps.all (fun t => Nat.blt t n) = true →
    (ps.toArray.zip vs.toArray).foldl (fun tmps (t, a) => tmps.setIfInBounds t a) (act n dd σ).tmps = (act n dd (updZ σ ps vs)).tmps := by
  intro ps vs σ h
  rw [← Array.foldl_toList]
  have e : (ps.toArray.zip vs.toArray).toList = ps.zip vs := by simp
  rw [e]
  clear e
  induction ps generalizing vs σ with
  | nil => simp [updZ]
  | cons p ps ih =>
    cases vs with
    | nil => simp [updZ]
    | cons v vs =>
      simp only [List.all_cons, Bool.and_eq_true] at h
      simp only [List.zip_cons_cons, List.foldl_cons, updZ]
      have := act_put (ds := dd) (σ := σ) (d := some p) (v := v) (n := n) h.1
      have e2 : (act n dd σ).tmps.setIfInBounds p v = (act n dd (upd σ p v)).tmps := congrArg Act.tmps this
      rw [e2]
      exact ih vs (upd σ p v) h.2
def updZG (σ : GE) : List Tmp → List Value → GE
  | p :: ps, v :: vs => updZG (updG σ p ⟨v, true⟩) ps vs
  | _, _ => σ
theorem updZ_real : ∀ (ps : List Tmp) (vs : List Value) (σ : GE), updZ (real σ) ps vs = real (updZG σ ps vs)
  | [], _, σ => by simp [updZ, updZG]
  | _ :: _, [], σ => by simp [updZ, updZG]
  | p :: ps, v :: vs, σ => by
    simp only [updZ, updZG]
    rw [show upd (real σ) p v = real (updG σ p ⟨v, true⟩) from real_upd σ p ⟨v, true⟩]
    exact updZ_real ps vs _

/-- what the record of a loop is, but for how it stands -/
def recOf (P : Program) (n : Nat) (fn : FuncId) (dd : List Deferred) (σ : GE) (ps : List Tmp) (assign body : Code) (D : Nat) (st : LoopState) (pe : Option Code) : Loop :=
  { state := st, pending := pe, fn, tmps := (act n dd (real σ)).tmps, params := ps.toArray, assign, body, defers := D }
/-- a round, out of its code -/
theorem yld_of {fn : FuncId} {dd : List Deferred} {args : List Value} {R : Bool → World → Prop} (hl : LoopAt w l (recOf P n fn dd σ ps assign body D .ready none)) (hlen : args.length = ps.length) (hin : (ps.all (fun t => Nat.blt t n) && codeIn n true assign && codeIn n true body) = true)
    (h : WC P n ⟨[], some l⟩ assign (fun e c σ' w1 => match e with | .normal => LoopAt w1 l (recOf P n fn dd σ ps assign body D .ready none) ∧ ∀ w2, Le [l] w1 w2 → LoopAt w2 l (recOf P n fn dd σ ps assign body D .busy none) → WC P n c body (rndP (recOf P n fn dd σ ps assign body D) l R) σ' w2 | _ => False) (real (updZG σ ps args)) w) :
    Yld P l args w R := by
  simp only [Bool.and_eq_true] at hin
  obtain ⟨⟨hin1, hin2⟩, hin3⟩ := hin
  refine ⟨_, hl, by simpa [recOf] using hlen, ?_⟩
  have ez := zip_put (n := n) dd ps args (real σ) hin1
  have e0 : (recOf P n fn dd σ ps assign body D .ready none).params = ps.toArray := rfl
  have e1 : (recOf P n fn dd σ ps assign body D .ready none).tmps = (act n dd (real σ)).tmps := rfl
  rw [e0, e1, ez, updZ_real]
  refine roundIn_of_wpIn (F := Fence.wide) (n := 0) trivial ?_
  unfold WC at h
  refine wpIn_mono (h hin2) ?_
  rintro e a1 w1 ⟨d1, σ1, rfl, hq⟩
  cases e <;> try exact hq.elim
  obtain ⟨hl1, hb⟩ := hq
  refine ⟨_, run_beginRound hl1 rfl, ?_⟩
  have hb2 := hb _ (le_putObj w1 l _) (World.putObj_heap_same hl1.lt)
  unfold WC at hb2
  refine wpIn_mono (hb2 hin3) ?_
  rintro e a2 w3 ⟨d2, σ2, rfl, hq⟩
  cases e with
  | normal => exact ⟨_, _, run_endRound none hq.1, _, rfl, hq.2 _ (le_putObj _ _ _) (World.putObj_heap_same hq.1.lt)⟩
  | ret => exact ⟨_, _, run_endRound (some .ret) hq.1, _, rfl, hq.2 _ (le_putObj _ _ _) (World.putObj_heap_same hq.1.lt)⟩
  | exit id => exact ⟨_, _, run_endRound (some (.exit id)) hq.1, _, rfl, hq.2 _ (le_putObj _ _ _) (World.putObj_heap_same hq.1.lt)⟩
  | goto t => exact hq.elim
  | panic ch => exact hq.elim
  | outgrown => exact hq.elim

/-- a loop over a function: an outermost one -/
theorem wcrangef {g : Operand} {gf : FuncId} [hf : Fnc P gf] {cap : List Value} (hg : evl (real σ) g = .func (.func gf) #[] ⟨cap⟩) (hro : ds.ro = none)
    (hcall : ∀ fn l D w1, w.heap.size ≤ D → w.heap.size ≤ l → l ≠ D → Frm w w1 → LoopAt w1 l (recOf P n fn ds.ds σ ps assign body D .ready none) → NoDef w1 D →
      CallsR P gf ((.func (.yield l) #[] #[]) :: cap).toArray w1 fun _ w2 => ∃ st pe, st ≠ .busy ∧ LoopAt w2 l (recOf P n fn ds.ds σ ps assign body D st pe) ∧
        ∀ w3, Le [l] w2 w3 → aftP P Q ⟨{ target := .collected D, args := #[] } :: ds.ds, none⟩ (real σ) w3 pe) :
    WC P n ds (.rangeFunc g ps.toArray assign body) Q (real σ) w := by
  obtain ⟨dd, ro⟩ := ds
  dsimp only at hro hcall
  subst hro
  unfold WC
  intro hin
  simp only [codeIn, Bool.and_eq_true] at hin
  have hgin := hin.1.1.1
  refine wpIn_rangeFunc ?_
  intro fn _
  let w1 := (w.alloc (.deferred (some []))).alloc (.loop (recOf P n fn dd σ ps assign body w.heap.size .ready none))
  have hL : LoopAt w1 (w.heap.size + 1) (recOf P n fn dd σ ps assign body w.heap.size .ready none) := by
    have := World.alloc_heap_new (w.alloc (.deferred (some []))) (.loop (recOf P n fn dd σ ps assign body w.heap.size .ready none))
    rw [World.size_alloc] at this
    exact this
  have hF : Frm w w1 := (frm_alloc w _).trans (frm_alloc _ _)
  have hD : NoDef w1 w.heap.size := by
    have h0 := World.alloc_heap_new w (.deferred (some []))
    exact (Below.heap_alloc (w.alloc (.deferred (some []))) _ w.heap.size (by simp)).trans h0
  have hc := hcall fn (w.heap.size + 1) w.heap.size w1 (Nat.le_refl _) (by omega) (by omega) hF hL hD
  refine ⟨w.heap.size + 1, [{ target := .collected w.heap.size, args := #[] }], w1, { target := .fn (.func gf) ⟨cap⟩, args := #[.func (.yield (w.heap.size + 1)) #[] #[]] }, w1, gf, ((.func (.yield (w.heap.size + 1)) #[] #[]) :: cap).toArray, w1, ?_, ?_, ?_, ?_, ?_, ?_⟩
  · exact run_enterLoop_outer fn _ _ _ _
  · have : (act n dd (real σ)).eval g = .func (.func gf) #[] ⟨cap⟩ := by rw [act_eval hgin, hg]
    simp only [resolve, this, Deferred.ofValue]
    simp [Act.eval]
  · intro f' _; trivial
  · have := run_callFunc (P := P) (f := gf) ((.func (.yield (w.heap.size + 1)) #[] #[]) :: cap).toArray w1
    simpa [invoke] using this
  · intro h; simp [fen, Fence.wide] at h
  · refine callsIn_wide.2 (Calls.mono hc ?_)
    rintro e w2 ⟨v, rfl, st, pe, hst, hl2, hq⟩
    refine ⟨pe, _, run_endLoop hl2 hst, ?_⟩
    have hq2 := hq _ (le_putObj w2 (w.heap.size + 1) (.loop { (recOf P n fn dd σ ps assign body w.heap.size st pe) with state := .exhausted }))
    cases pe with
    | none => exact ⟨_, _, rfl, hq2⟩
    | some c =>
      cases c <;> try exact hq2.elim
      · exact wpIn_exit ⟨_, _, rfl, hq2⟩
      · exact wpIn_ret ⟨_, _, rfl, hq2⟩
end
section
variable {P : Program} {Q : Exit → Ctx → Env → World → Prop} {c : Ctx} {σ : Env} {w : World} {rec : LoopState → Option Code → Loop} {l : Nat} {R : Bool → World → Prop} {i : Nat}
theorem rnd_normal (hl : LoopAt w l (rec .busy none)) (h : ∀ w', Le [l] w w' → LoopAt w' l (rec .ready none) → R true w') : rndP rec l R .normal c σ w := ⟨hl, h⟩
theorem rnd_ret (hl : LoopAt w l (rec .busy none)) (h : ∀ w', Le [l] w w' → LoopAt w' l (rec .done (some .ret)) → R false w') : rndP rec l R .ret c σ w := ⟨hl, h⟩
theorem aft_none (h : Q .normal c σ w) : aftP P Q c σ w none := h
theorem aft_ret (h : Q .ret c σ w) : aftP P Q c σ w (some .ret) := h
end
attribute [irreducible] rndP aftP
end Go.Sv

/-
  Package utf: All, Runes.
-/
set_option linter.unusedSimpArgs false
set_option linter.unusedVariables false
set_option linter.unnecessarySimpa false
namespace Go.Proofs.YtmnnffenijjpcaaGreatDoor
open Go Go.Sv Go.RowKit









































































end Go.Proofs.YtmnnffenijjpcaaGreatDoor

/-
  Package utf: Runes, Mend.
-/
set_option linter.unusedSimpArgs false
set_option linter.unusedVariables false
set_option linter.unnecessarySimpa false
namespace Go.Proofs.YtmnnffenijjpcaaGreatDoor
open Go Go.Sv Go.RowKit

theorem Im.only {w : World} {p : Option Addr} {l : List Value} {M : List Nat} (h : Im [] w p l) (hM : ∀ b ∈ rb p, b < w.heap.size → b ∉ M) : Im M w p l := by
  rcases h with h | ⟨a, rfl, h1, h2, _⟩
  · exact .inl h
  · exact .inr ⟨a, rfl, h1, h2, hM _ (by simp [rb]) h2⟩


















































































































end Go.Proofs.YtmnnffenijjpcaaGreatDoor

/-
  Package utf: Mend.
-/
set_option linter.unusedSimpArgs false
set_option linter.unusedVariables false
set_option linter.unnecessarySimpa false
namespace Go.Proofs.YtmnnffenijjpcaaGreatDoor
open Go Go.Sv Go.RowKit

theorem sec_true (c d : Nat) (h : 128 ≤ d ∧ d ≤ 191 ∧ (c = 224 → 160 ≤ d) ∧ (c = 237 → d ≤ 159) ∧ (c = 240 → 144 ≤ d) ∧ (c = 244 → d ≤ 143)) : secondR c d = true := by
  unfold secondR
  repeat' split
  all_goals simp only [Bool.and_eq_true, decide_eq_true_eq]
  all_goals omega
theorem right1 (l : List UInt8) (h : at0 l 0 < 128) : (pieceR l).2.2 = true := by
  have hs : sizeR (at0 l 0) = 1 := by unfold sizeR; rw [if_pos (by omega)]
  show (goodR l).2 = true
  simp [goodR, hs, goodF]
theorem right2 (l : List UInt8) (hl : 1 < l.length) (h : 194 ≤ at0 l 0 ∧ at0 l 0 ≤ 223 ∧ 128 ≤ at0 l 1 ∧ at0 l 1 ≤ 191) : (pieceR l).2.2 = true := by
  have hs : sizeR (at0 l 0) = 2 := by unfold sizeR; rw [if_neg (by omega), if_pos (by omega)]
  have h2 := sec_true (at0 l 0) (at0 l 1) (by omega)
  show (goodR l).2 = true
  simp [goodR, hs, goodF, hl, h2]
theorem right3 (l : List UInt8) (hl : 2 < l.length) (h : 224 ≤ at0 l 0 ∧ at0 l 0 ≤ 239 ∧ 128 ≤ at0 l 1 ∧ at0 l 1 ≤ 191 ∧ (at0 l 0 = 224 → 160 ≤ at0 l 1) ∧ (at0 l 0 = 237 → at0 l 1 ≤ 159) ∧ 128 ≤ at0 l 2 ∧ at0 l 2 ≤ 191) : (pieceR l).2.2 = true := by
  have hs : sizeR (at0 l 0) = 3 := by unfold sizeR; rw [if_neg (by omega), if_neg (by omega), if_pos (by omega)]
  have h2 := sec_true (at0 l 0) (at0 l 1) (by omega)
  have h3 : ¬ (at0 l 2 < 128 ∨ 191 < at0 l 2) := by omega
  show (goodR l).2 = true
  simp [goodR, hs, goodF, hl, h2, h3, show 1 < l.length by omega]
  try omega
theorem right4 (l : List UInt8) (hl : 3 < l.length) (h : 240 ≤ at0 l 0 ∧ at0 l 0 ≤ 244 ∧ 128 ≤ at0 l 1 ∧ at0 l 1 ≤ 191 ∧ (at0 l 0 = 240 → 144 ≤ at0 l 1) ∧ (at0 l 0 = 244 → at0 l 1 ≤ 143) ∧ 128 ≤ at0 l 2 ∧ at0 l 2 ≤ 191 ∧ 128 ≤ at0 l 3 ∧ at0 l 3 ≤ 191) : (pieceR l).2.2 = true := by
  have hs : sizeR (at0 l 0) = 4 := by unfold sizeR; rw [if_neg (by omega), if_neg (by omega), if_neg (by omega), if_pos (by omega)]
  have h2 := sec_true (at0 l 0) (at0 l 1) (by omega)
  have h3 : ¬ (at0 l 2 < 128 ∨ 191 < at0 l 2) := by omega
  have h4 : ¬ (at0 l 3 < 128 ∨ 191 < at0 l 3) := by omega
  show (goodR l).2 = true
  simp [goodR, hs, goodF, hl, h2, h3, h4, show 1 < l.length by omega, show 2 < l.length by omega]
  try omega
theorem valid_back (l : List UInt8) (h0 : 0 < l.length) (hr : (pieceR l).2.2 = true) (h : validR (l.drop (pieceR l).2.1) = true) : validR l = true := by
  have hp := readS_piece l h0
  have hv := validS_cons l h0
  have hw := (whatR_zero l).2 hr
  rw [valid_eq, valid_eq, hp] at hv
  dsimp only at hv
  rw [if_neg (by simpa using hw)] at hv
  rw [hv]; exact h
section
variable {P : Program} {w : World} {ty t t' e : TypeId} {pos : String} {af : Array Edge} {x : Operand} {p : Option Addr} {c : Nat}
end
section
variable {P : Program} {n : Nat} {ds : Ctx} {ops : Array Oper} {Q : Exit → Ctx → Env → World → Prop} {rest : List Oper} {σ : GE} {w : World} {d : Nat} {ty t t' e : TypeId} {pos : String} {af : Array Edge} {x : Operand}
end
































































end Go.Proofs.YtmnnffenijjpcaaGreatDoor

/-
  Runes as bytes, read again.
-/
set_option linter.unusedSimpArgs false
set_option linter.unusedVariables false
set_option linter.unnecessarySimpa false
namespace Go.Proofs.YtmnnffenijjpcaaGreatDoor
open Go Go.Sv Go.RowKit

theorem piece_enc (r : Nat) (hg : Good r) (rest : List UInt8) : pieceR (encR r ++ rest) = ((r : Int), (encR r).length, true) := by
  obtain ⟨hg1, hg2⟩ := hg
  have fin : ∀ l : List UInt8, (pieceR l).2.2 = true → Right l := right_of
  unfold encR encN
  by_cases h1 : r < 128
  · rw [if_pos h1]
    generalize hl : (([r] : List Nat).map UInt8.ofNat ++ rest : List UInt8) = l
    have e0 : at0 l 0 = r := by subst hl; simp [at0]; omega
    have hr := fin l (right1 l (by omega))
    rcases hr with ⟨g1, hp⟩ | ⟨gl, g1, g2, g3, g4, hp⟩ | ⟨gl, g1, g2, g3, g4, g5, g6, g7, g8, hp⟩ | ⟨gl, g1, g2, g3, g4, g5, g6, g7, g8, g9, g10, hp⟩
    · rw [hp, e0]; rfl
    all_goals omega
  rw [if_neg h1]
  by_cases h2 : r < 2048
  · rw [if_pos h2]
    generalize hl : (([192 + r / 64, 128 + r % 64] : List Nat).map UInt8.ofNat ++ rest : List UInt8) = l
    have e0 : at0 l 0 = 192 + r / 64 := by subst hl; simp [at0]; omega
    have e1 : at0 l 1 = 128 + r % 64 := by subst hl; simp [at0]; omega
    have hr := fin l (right2 l (by subst hl; simp) (by omega))
    rcases hr with ⟨g1, hp⟩ | ⟨gl, g1, g2, g3, g4, hp⟩ | ⟨gl, g1, g2, g3, g4, g5, g6, g7, g8, hp⟩ | ⟨gl, g1, g2, g3, g4, g5, g6, g7, g8, g9, g10, hp⟩
    · omega
    · rw [hp, e0, e1]; simp; omega
    all_goals omega
  rw [if_neg h2]
  by_cases h3 : r < 65536
  · rw [if_pos h3]
    generalize hl : (([224 + r / 4096, 128 + r / 64 % 64, 128 + r % 64] : List Nat).map UInt8.ofNat ++ rest : List UInt8) = l
    have e0 : at0 l 0 = 224 + r / 4096 := by subst hl; simp [at0]; omega
    have e1 : at0 l 1 = 128 + r / 64 % 64 := by subst hl; simp [at0]; omega
    have e2 : at0 l 2 = 128 + r % 64 := by subst hl; simp [at0]; omega
    have hr := fin l (right3 l (by subst hl; simp) (by omega))
    rcases hr with ⟨g1, hp⟩ | ⟨gl, g1, g2, g3, g4, hp⟩ | ⟨gl, g1, g2, g3, g4, g5, g6, g7, g8, hp⟩ | ⟨gl, g1, g2, g3, g4, g5, g6, g7, g8, g9, g10, hp⟩
    · omega
    · omega
    · rw [hp, e0, e1, e2]; simp; omega
    · omega
  rw [if_neg h3]
  generalize hl : (([240 + r / 262144, 128 + r / 4096 % 64, 128 + r / 64 % 64, 128 + r % 64] : List Nat).map UInt8.ofNat ++ rest : List UInt8) = l
  have e0 : at0 l 0 = 240 + r / 262144 := by subst hl; simp [at0]; omega
  have e1 : at0 l 1 = 128 + r / 4096 % 64 := by subst hl; simp [at0]; omega
  have e2 : at0 l 2 = 128 + r / 64 % 64 := by subst hl; simp [at0]; omega
  have e3 : at0 l 3 = 128 + r % 64 := by subst hl; simp [at0]; omega
  have hr := fin l (right4 l (by subst hl; simp) (by omega))
  rcases hr with ⟨g1, hp⟩ | ⟨gl, g1, g2, g3, g4, hp⟩ | ⟨gl, g1, g2, g3, g4, g5, g6, g7, g8, hp⟩ | ⟨gl, g1, g2, g3, g4, g5, g6, g7, g8, g9, g10, hp⟩
  · omega
  · omega
  · omega
  · rw [hp, e0, e1, e2, e3]; simp; omega

theorem drop_enc (r : Nat) (rest : List UInt8) : (encR r ++ rest).drop (encR r).length = rest := List.drop_left
theorem valid_flat : ∀ rs : List Nat, (∀ r ∈ rs, Good r) → validR (rs.flatMap encR) = true
  | [], _ => rfl
  | r :: rs, h => by
    have h4 := encR_len4 r
    rw [List.flatMap_cons]
    refine valid_back _ (by simp; omega) ?_ ?_
    · rw [piece_enc r (h r List.mem_cons_self)]
    · rw [piece_enc r (h r List.mem_cons_self)]
      dsimp only
      rw [drop_enc]
      exact valid_flat rs fun x hx => h x (List.mem_cons_of_mem _ hx)
end Go.Proofs.YtmnnffenijjpcaaGreatDoor

/-
  Package link: schemes; what is stripped.
-/
set_option linter.unusedSimpArgs false
set_option linter.unusedVariables false
set_option linter.unnecessarySimpa false
namespace Go.Sv
open Go Go.RowKit
section
variable {P : Program} {n : Nat} {ds : Ctx} {ops : Array Oper} {Q : Exit → Ctx → Env → World → Prop} {rest : List Oper} {σ : GE} {w : World} {d : Nat} {ty t e : TypeId} {pos : String} {af : Array Edge} {x y : Operand} {zv : Value} {size bytes c : Nat} {kl kc : IntKind}
end
end Go.Sv
namespace Go.Proofs.YtmnnffenijjpcaaGreatDoor
open Go Go.Sv Go.RowKit

def schB (c : Nat) : Bool := letterR c || digitR c || decide (c = 43 ∨ c = 45 ∨ c = 46)













/-- a scheme's end, behind its first byte -/
def schF : List UInt8 → Nat → Nat × Bool
  | [], _ => (0, false)
  | c :: t, i => if c.toNat = 58 then (i, true) else if schB c.toNat then schF t (i + 1) else (0, false)
def schemeR (l : List UInt8) : Nat × Bool := if l = [] ∨ letterR (at0 l 0) = false then (0, false) else schF (l.drop 1) 1
/-- what is left of runes behind leading blanks and controls -/
def cutL (rs : List Nat) : List Nat := rs.dropWhile fun r => decide (r ≤ 32)
def cutT (rs : List Nat) : List Nat := (cutL rs.reverse).reverse
def keepN (rs : List Nat) : List Nat := rs.filter fun r => decide (r ≠ 9 ∧ r ≠ 10 ∧ r ≠ 13)
def stripN (rs : List Nat) : List Nat := keepN (cutT (cutL rs))
def stripR (l : List UInt8) : List UInt8 := (stripN (runesN l)).flatMap encR
end Go.Proofs.YtmnnffenijjpcaaGreatDoor

/-
  Package link: Scheme, percent escapes.
-/
set_option linter.unusedSimpArgs false
set_option linter.unusedVariables false
set_option linter.unnecessarySimpa false
namespace Go.Sv
open Go Go.RowKit
end Go.Sv
namespace Go.Proofs.YtmnnffenijjpcaaGreatDoor
open Go Go.Sv Go.RowKit

/-- two hexadecimal digits ahead? -/
def codedR (l : List UInt8) (i : Nat) : Bool := decide (i + 2 < l.length) && hexR (at0 l (i + 1)) && hexR (at0 l (i + 2))































def codedS (t : List UInt8) : Bool := decide (1 < t.length) && hexR (at0 t 0) && hexR (at0 t 1)
def badB : List UInt8 := [34, 60, 62, 92, 94, 96, 123, 124, 125]
def escB (c : Nat) (coded : Bool) : Bool := decide (c ≤ 32) || decide (127 ≤ c) || decide (UInt8.ofNat c ∈ badB) || (decide (c = 37) && !coded)
def digs : List UInt8 := [48, 49, 50, 51, 52, 53, 54, 55, 56, 57, 65, 66, 67, 68, 69, 70]
def pct (c : Nat) : List UInt8 := [37, digs[c / 16]?.getD 0, digs[c % 16]?.getD 0]
def encC (c : Nat) (coded : Bool) : List UInt8 := if escB c coded then pct c else [UInt8.ofNat c]
def encL : List UInt8 → List UInt8
  | [] => []
  | c :: t => encC c.toNat (codedS t) ++ encL t
def encodeR (s : List UInt8) : List UInt8 := encL (mendR s)
end Go.Proofs.YtmnnffenijjpcaaGreatDoor

/-
  Package link: without percent escapes.
-/
set_option linter.unusedSimpArgs false
set_option linter.unusedVariables false
set_option linter.unnecessarySimpa false
namespace Go.Sv
open Go Go.RowKit
section
variable {P : Program} {σ : GE} {w0 : World} {d : Nat} {ty t e : TypeId} {pos : String} {af : Array Edge} {x : Operand} {zv v : Value} {bytes : Nat} {kk : IntKind} {a : Int} {K : Env → World → Prop}
end
end Go.Sv
namespace Go.Proofs.YtmnnffenijjpcaaGreatDoor
open Go Go.Sv Go.RowKit

def valN (c : Nat) : Nat := (valueR c).toNat
def decL : List UInt8 → List UInt8
  | [] => []
  | c :: t => if c = 37 ∧ codedS t = true then UInt8.ofNat (16 * valN (at0 t 0) + valN (at0 t 1)) :: decL (t.drop 2) else c :: decL t
termination_by l => l.length
decreasing_by
  · simp; omega
  · simp
def decodeR (s : List UInt8) : List UInt8 := mendR (decL (mendR s))
end Go.Proofs.YtmnnffenijjpcaaGreatDoor

/-
  Package sieveref12: Encode, Decode.
-/
set_option linter.unusedSimpArgs false
set_option linter.unusedVariables false
set_option linter.unnecessarySimpa false
namespace Go.Sv
open Go Go.RowKit
section
variable {P : Program} {n : Nat} {ds : Ctx} {ops : Array Oper} {Q : Exit → Ctx → Env → World → Prop} {rest : List Oper} {σ : GE} {w : World} {d : Nat} {ty t t' e : TypeId} {pos : String} {af : Array Edge} {x : Operand} {zv : Value} {bytes : Nat}
def enum (vs : List Value) (j : Nat) : List (Nat × Value) := (vs.zipIdx j).map fun p => (p.2, p.1)
theorem fill_enum : ∀ (vs : List Value) (j : Nat) (z : List Value), (∀ v ∈ vs, v.cells = #[v]) → j + vs.length ≤ z.length →
    Instr.fill (fun i => some (i * 1, 1)) z.toArray (enum vs j) = some (z.take j ++ vs ++ z.drop (j + vs.length)).toArray
  | [], j, z, _, _ => by simp [enum, Instr.fill]
  | v :: vs, j, z, hv, hj => by
    have h1 := hv v List.mem_cons_self
    simp only [List.length_cons] at hj
    have ih := fill_enum vs (j + 1) (z.set j v) (fun u hu => hv u (List.mem_cons_of_mem _ hu)) (by simp; omega)
    simp only [enum, List.zipIdx_cons, List.map_cons, Instr.fill]
    rw [h1]
    simp only [List.size_toArray, List.length_cons, List.length_nil, Nat.mul_one]
    rw [if_neg (by simp; omega)]
    have e : (#[v] : Array Value).zipIdx.foldl (fun cs (x : Value × Nat) => match x with | (c, k) => cs.setIfInBounds (j + k) c) z.toArray = (z.set j v).toArray := by
      simp
    rw [e]
    rw [enum] at ih
    simp only [Nat.mul_one] at ih
    rw [ih]
    congr 2
    have hjl : j < z.length := by omega
    rw [List.take_succ_eq_append_getElem (by simpa using hjl), List.take_set_of_le (Nat.le_refl _), List.drop_set_of_lt (by omega)]
    simp only [List.getElem_set_self, List.append_assoc, List.cons_append, List.nil_append, List.length_cons]
    rw [show j + 1 + vs.length = j + (vs.length + 1) from by omega]
/-- a slice written out, of values of one cell each -/
theorem wlbsn [hu : Und P t (.slice e)] [hi : Inf P e zv 1 bytes] {ps : List (Nat × Operand)} (vs : List Value) (k : Nat) (h : ∀ b w', w.heap.size ≤ b → Own w' b vs → Frm w w' → WL P n ds ops Q rest (real (updG σ d ⟨.slice (pb b) k k, true⟩)) w')
    (hps : ps.map (fun p => (p.1, evl (real σ) p.2)) = enum vs 0 := by rfl) (hk : vs.length = k := by rfl) (h1 : ∀ v ∈ vs, v.cells = #[v]) (hz : zv.cells.size = 1 := by rfl) (hk1 : k ≤ 16777216 := by decide) (hk0 : k ≠ 0 := by decide) :
    WL P n ds ops Q (⟨some d, .buildSlice t k ps.toArray, ty, pos, af, none⟩ :: rest) (real σ) w := by
  subst hk
  refine wl (h w.heap.size (w.alloc (.cells vs.toArray e)) (Nat.le_refl _) (by have := own_alloc w vs.toArray e; simpa using this) (frm_alloc _ _)) (Y.val ?_)
  have hf := fill_enum vs 0 ((Array.range (vs.length * 1)).map (zv.cells[· % zv.cells.size]!)).toList h1 (by simp)
  have hpa : (ps.toArray.map fun (x : Nat × Operand) => match x with | (i, x) => (i, evl (real σ) x)).toList = enum vs 0 := by rw [← hps]; simp
  simp only [execOp, Instr.buildSlice, Sem.run_bind, underlying, run_program, Result.andThen_ok, hu.ok, Sem.run_pure, run_sizeOf (P := P) (t := e), Nat.mul_one]
  rw [if_neg (by omega), if_neg hk0]
  simp only [Sem.run_bind, Sem.run_pure, Result.andThen_ok, run_zeroValue (P := P) (t := e)]
  rw [hpa]
  simp only [Array.toArray_toList, Nat.mul_one] at hf
  rw [hf]
  have hz0 : (vs ++ List.drop vs.length (List.map (fun x => zv.cells[x % zv.cells.size]!) (List.range vs.length))) = vs := by
    rw [List.drop_eq_nil_of_le (by simp), List.append_nil]
  simp [newRow, hz0]
end
end Go.Sv
namespace Go.Proofs.YtmnnffenijjpcaaGreatDoor
open Go Go.Sv Go.RowKit

end Go.Proofs.YtmnnffenijjpcaaGreatDoor

/-
  Slices written out of elements of many cells; regions that draw their order, by an invariant of the whole state.
-/
set_option linter.unusedSimpArgs false
set_option linter.unusedVariables false
set_option linter.unnecessarySimpa false
namespace Go.Sv
open Go Go.RowKit
theorem fill_rows (size : Nat) : ∀ (vs : List (List Value)) (j : Nat) (z : List Value), (∀ v ∈ vs, v.length = size) → (j + vs.length) * size ≤ z.length →
    Instr.fill (fun i => some (i * size, size)) z.toArray (enum (vs.map fun l => .agg l.toArray) j) = some (z.take (j * size) ++ vs.flatten ++ z.drop ((j + vs.length) * size)).toArray
  | [], j, z, _, _ => by simp [enum, Instr.fill]
  | v :: vs, j, z, hv, hj => by
    have h1 := hv v List.mem_cons_self
    simp only [List.length_cons] at hj
    have hj1 : (j + 1 + vs.length) * size ≤ z.length := by rw [show j + 1 + vs.length = j + (vs.length + 1) from by omega]; exact hj
    have hle : j * size + size ≤ z.length := by
      refine Nat.le_trans ?_ hj1
      rw [← Nat.succ_mul]
      exact Nat.mul_le_mul_right _ (by omega)
    have hlen : (setSeg z (j * size) v).length = z.length := by simp only [setSeg, List.length_append, List.length_take, List.length_drop, h1]; omega
    have ih := fill_rows size vs (j + 1) (setSeg z (j * size) v) (fun u hu => hv u (List.mem_cons_of_mem _ hu)) (by rw [hlen]; exact hj1)
    simp only [enum, List.map_cons, List.zipIdx_cons, Instr.fill]
    have hu : (Value.agg v.toArray).cells = v.toArray := rfl
    generalize Value.agg v.toArray = u at hu
    have hcond : ¬ ((u.cells.size ≠ size || j * size + u.cells.size > z.toArray.size) = true) := by simp [hu, h1]; omega
    simp only [hcond, if_false]
    have hf := foldl_setSeg (j * size) v 0 z.toArray (by simp [h1]; omega)
    have hf2 : u.cells.zipIdx.foldl (fun cs (x : Value × Nat) => cs.setIfInBounds (j * size + x.2) x.1) z.toArray = (setSeg z (j * size) v).toArray := by
      rw [hu, ← Array.foldl_toList]
      simpa [Array.toList_zipIdx] using hf
    rw [show (fun cs (x : Value × Nat) => match x with | (c, k) => cs.setIfInBounds (j * size + k) c) = (fun (cs : Array Value) (x : Value × Nat) => cs.setIfInBounds (j * size + x.2) x.1) from rfl, hf2]
    rw [enum] at ih
    rw [ih]
    congr 1
    have e1 : (setSeg z (j * size) v).take ((j + 1) * size) = z.take (j * size) ++ v := by
      simp only [setSeg]
      rw [Nat.succ_mul, List.take_left' (by simp only [List.length_append, List.length_take, h1]; omega)]
    have e2 : (setSeg z (j * size) v).drop ((j + 1 + vs.length) * size) = z.drop ((j + (vs.length + 1)) * size) := by
      simp only [setSeg, h1]
      rw [List.drop_append, List.drop_eq_nil_of_le (by simp only [List.length_append, List.length_take, h1]; rw [Nat.min_eq_left (by omega), ← Nat.succ_mul]; exact Nat.mul_le_mul_right _ (by omega)), List.nil_append, List.drop_drop]
      congr 1
      simp only [List.length_append, List.length_take, h1]
      have : (j + 1 + vs.length) * size = j * size + size + vs.length * size := by rw [Nat.add_mul, Nat.succ_mul]
      have h2 : (j + (vs.length + 1)) * size = j * size + size + vs.length * size := by rw [← Nat.add_assoc, Nat.add_mul, Nat.add_mul]; omega
      rw [Nat.min_eq_left (by omega), this, h2]
      omega
    rw [e1, e2]
    simp
section
variable {P : Program} {n : Nat} {ds : Ctx} {ops : Array Oper} {Q : Exit → Ctx → Env → World → Prop} {rest : List Oper} {σ : GE} {w : World} {d : Nat} {ty t t' e : TypeId} {pos : String} {af : Array Edge} {x : Operand} {zv : Value} {size bytes : Nat}
/-- a slice written out, of structs -/
theorem wlbsr [hu : Und P t (.slice e)] [hi : Inf P e zv size bytes] {ps : List (Nat × Operand)} (vs : List (List Value)) (k : Nat) (h : ∀ b w', w.heap.size ≤ b → Own w' b vs.flatten → Frm w w' → WL P n ds ops Q rest (real (updG σ d ⟨.slice (pb b) k k, true⟩)) w')
    (hps : ps.map (fun p => (p.1, evl (real σ) p.2)) = enum (vs.map fun l => .agg l.toArray) 0 := by rfl) (hk : vs.length = k := by rfl) (h1 : ∀ v ∈ vs, v.length = size := by simp) (hz : zv.cells.size = size := by rfl) (hk1 : k * size ≤ 16777216 := by decide) (hk0 : k * size ≠ 0 := by decide) :
    WL P n ds ops Q (⟨some d, .buildSlice t k ps.toArray, ty, pos, af, none⟩ :: rest) (real σ) w := by
  subst hk
  have hfl : ∀ l : List (List Value), (∀ v ∈ l, v.length = size) → l.flatten.length = l.length * size := by
    intro l
    induction l with
    | nil => simp
    | cons v l ih => intro h; simp only [List.flatten_cons, List.length_append, List.length_cons, Nat.succ_mul]; rw [h v List.mem_cons_self, ih fun u hu => h u (List.mem_cons_of_mem _ hu)]; omega
  refine wl (h w.heap.size (w.alloc (.cells vs.flatten.toArray e)) (Nat.le_refl _) (by have := own_alloc w vs.flatten.toArray e; simpa using this) (frm_alloc _ _)) (Y.val ?_)
  have hf := fill_rows size vs 0 ((Array.range (vs.length * size)).map (zv.cells[· % zv.cells.size]!)).toList h1 (by simp)
  have hpa : (ps.toArray.map fun (x : Nat × Operand) => match x with | (i, x) => (i, evl (real σ) x)).toList = enum (vs.map fun l => .agg l.toArray) 0 := by rw [← hps]; simp
  simp only [execOp, Instr.buildSlice, Sem.run_bind, underlying, run_program, Result.andThen_ok, hu.ok, Sem.run_pure, run_sizeOf (P := P) (t := e)]
  rw [if_neg (by omega), if_neg hk0]
  simp only [Sem.run_bind, Sem.run_pure, Result.andThen_ok, run_zeroValue (P := P) (t := e)]
  rw [hpa]
  simp only [Array.toArray_toList, Nat.zero_mul, Nat.zero_add] at hf
  rw [hf]
  have hz0 : List.drop (vs.length * size) (List.map (fun x => zv.cells[x % zv.cells.size]!) (List.range (vs.length * size))) = [] := List.drop_eq_nil_of_le (by simp)
  simp [newRow, hz0]
end

/-! ## Regions that draw their order, by an invariant -/
def fwdB (ops : Array Oper) : Bool := (List.range ops.size).all fun j => match ops[j]? with
  | some o => o.after.all fun e => !Region.binds .any e || decide (e.on < j)
  | none => true
theorem ready_of_fwd {ops : Array Oper} (hf : fwdB ops = true) {listed : Array Bool} (hsz : listed.size = ops.size) (hr : Region.ready .any ops listed = []) : ∀ k, k < ops.size → fl listed k = true := by
  intro k
  induction k using Nat.strongRecOn with
  | _ k ih =>
    intro hk
    cases hL : fl listed k with
    | true => rfl
    | false =>
      exfalso
      have hmem : k ∈ Region.ready .any ops listed := by
        refine mem_ready.2 ⟨?_, ops[k], by simp [hk], ?_⟩
        · simp only [fl, Array.getD_eq_getD_getElem?, show k < listed.size from by omega, Array.getElem?_eq_getElem, Option.getD_some] at hL ⊢
          exact hL
        · intro e he hb
          simp only [fwdB, List.all_eq_true, List.mem_range] at hf
          have h1 := hf k hk
          simp only [hk, Array.getElem?_eq_getElem] at h1
          have h2 := Array.all_eq_true_iff_forall_mem.1 h1 e he
          simp only [hb, Bool.not_true, Bool.false_or, decide_eq_true_eq] at h2
          exact ih e.on h2 (by omega)
      rw [hr] at hmem
      cases hmem
/-- what comes of an operation, whatever it yields -/
def comes (P : Program) (T : Value → World → Prop) : Result Next → Prop
  | .ok (.value u) w' => T u w'
  | .ok .skip w' => T undef w'
  | .ok (.enter f args) w' => Calls P f args w' (fun e w'' => ∃ v, e = .returned v ∧ T v w'')
  | _ => False
def StepI (P : Program) (ops : Array Oper) (S : (Nat → Bool) → Env → World → Prop) (k : Nat) (o : Oper) : Prop := ∀ L σ w, Up ops o k L → S L σ w →
  (Region.wanted o (yl ops σ) = true ∧ comes P (fun v w' => S (on L k) (updO σ o.dst v) w') ((execOp (evl σ) o).run P w)) ∨ (Region.wanted o (yl ops σ) = false ∧ S (on L k) (updO σ o.dst undef) w)
def StepsI (P : Program) (ops : Array Oper) (S : (Nat → Bool) → Env → World → Prop) : Nat → List Oper → Prop
  | _, [] => True
  | k, o :: l => StepI P ops S k o ∧ StepsI P ops S (k + 1) l
theorem stepsI_get {P : Program} {ops : Array Oper} {S : (Nat → Bool) → Env → World → Prop} : ∀ {l : List Oper} {k : Nat}, StepsI P ops S k l → ∀ j o, l[j]? = some o → StepI P ops S (k + j) o
  | [], _, _, j, o, h => by simp at h
  | x :: l, k, hs, 0, o, h => by simp only [List.getElem?_cons_zero, Option.some.injEq] at h; subst h; exact hs.1
  | x :: l, k, hs, j + 1, o, h => by
    have := stepsI_get hs.2 j o (by simpa using h)
    rwa [show k + 1 + j = k + (j + 1) from by omega] at this
section
variable {P : Program} {n : Nat} {ds : Ctx} {Q : Exit → Ctx → Env → World → Prop} {S : (Nat → Bool) → Env → World → Prop} {σ : Env} {w : World}
theorem comes_of_Y {o : Oper} {v : Value} {w w' : World} {T : Value → World → Prop} (hy : Y P σ o w v w') (hT : T v w') : comes P T ((execOp (evl σ) o).run P w) := by
  unfold Y at hy
  rcases hy with hy | ⟨hy, rfl⟩
  · rw [hy]; exact hT
  · rw [hy]; exact hT
end
end Go.Sv

/-
  Packages names and sieveref04: which names are in the set of void elements; texts parted by blanks.
-/
set_option linter.unusedSimpArgs false
set_option linter.unusedVariables false
set_option linter.unnecessarySimpa false
namespace Go.Proofs.YtmnnffenijjpcaaGreatDoor
open Go Go.Sv Go.RowKit

def strs (l : List (List UInt8)) : List Value := l.map fun s => str s
theorem strs_len (l : List (List UInt8)) : (strs l).length = l.length := by simp [strs]
theorem strs_at {l : List (List UInt8)} {i : Nat} {x : List UInt8} (h : l[i]? = some x) : (strs l)[i]? = some (str x) := by simp [strs, h]
theorem strs_get {l : List (List UInt8)} {i : Nat} (h : i < l.length) : (strs l)[i]? = some (str l[i]) := by simp [strs, h]
theorem strs_app (l m : List (List UInt8)) : strs (l ++ m) = strs l ++ strs m := by simp [strs]
theorem strs_snoc (l : List (List UInt8)) (x : List UInt8) : strs l ++ [str x] = strs (l ++ [x]) := (strs_app l [x]).symm
theorem strs_one (l : List (List UInt8)) : ∀ u ∈ strs l, u.oneCell' = true := by
  intro u hu
  obtain ⟨x, _, rfl⟩ := List.mem_map.1 hu
  rfl

/-- the table of blanks holds what its initialiser lays -/
def Asc (w : World) : Prop := Lib.TabIs Tryz.prog w "strings.asciiSpace" .u8 Lib.asciiSpaceTab
theorem gAsc : Tryz.prog.globalNamed "strings.asciiSpace" = some 0 := by kernel_rfl
theorem Asc.frm {w w' : World} (h : Asc w) (hf : Frm w w') : Asc w' := by
  unfold Asc Lib.TabIs World.var? at h ⊢
  rw [gAsc] at h ⊢
  simp only [Option.bind_some] at h ⊢
  have hlt : 0 < w.heap.size := by
    rcases Nat.lt_or_ge 0 w.heap.size with h' | h'
    · exact h'
    · rw [Array.getElem?_eq_none h'] at h; cases h
  rw [hf.block _ hlt]
  exact h

/-! ## sieveref04: Fields -/
def blkR (c : UInt8) : Bool := decide (c = 9 ∨ c = 10 ∨ c = 12 ∨ c = 32)
def fgo : List UInt8 → List UInt8 → List (List UInt8)
  | cur, [] => if cur = [] then [] else [cur]
  | cur, b :: l => if blkR b then (if cur = [] then fgo [] l else cur :: fgo [] l) else fgo (cur ++ [b]) l
def fieldsR (s : List UInt8) : List (List UInt8) := fgo [] s
theorem refBlank_ok (c : Int) (w : World) : PureC Tryz.prog 101 #[i32 c] w (.bool (decide (c = 9 ∨ c = 10 ∨ c = 12 ∨ c = 32))) := by
  refine enter (l := [i32 c]) Tryz.func101 rfl Tryz.ntmps101 (by kernel_rfl) rfl ?_
  refine sgo ?_
  (first | refine fp1 (.inl rfl) rfl rfl ?_ | refine fp2 (.inl rfl) rfl rfl rfl ?_ | refine fp3 (.inl rfl) rfl rfl rfl rfl ?_ | refine fp0 (.inr rfl) rfl ?_ | refine fp0 (.inl rfl) rfl ?_ | refine fp1 (.inr rfl) rfl rfl ?_); refine ⟨?_, by (first | exact Frm.refl _ | assumption | exact Go.Sv.Sep.frm (by assumption) | (refine Frm.trans ?_ (by assumption); first | exact Frm.refl _ | assumption))⟩; (try simp only [realB, rv_true, Nat.reduceBEq, cond_true, cond_false, entG, real_lif, updGL])
  congr 1
  simp only [pkb_or, Bool.decide_or, Bool.or_assoc]
theorem refBlankB_ok (c : UInt8) (w : World) : PureC Tryz.prog 74 #[byt c.toNat] w (.bool (blkR c)) := by
  refine enter (l := [byt c.toNat]) Tryz.func74 rfl Tryz.ntmps74 (by kernel_rfl) rfl ?_
  refine sgo ?_
  refine wlpure (refBlank_ok c.toNat _) fun w1 hf1 => ?_
  refine sgo ?_
  (first | refine fp1 (.inl rfl) rfl rfl ?_ | refine fp2 (.inl rfl) rfl rfl rfl ?_ | refine fp3 (.inl rfl) rfl rfl rfl rfl ?_ | refine fp0 (.inr rfl) rfl ?_ | refine fp0 (.inl rfl) rfl ?_ | refine fp1 (.inr rfl) rfl rfl ?_); refine ⟨?_, by (first | exact Frm.refl _ | assumption | exact Go.Sv.Sep.frm (by assumption) | (refine Frm.trans ?_ (by assumption); first | exact Frm.refl _ | assumption))⟩; (try simp only [realB, rv_true, Nat.reduceBEq, cond_true, cond_false, entG, real_lif, updGL])
  congr 1
  unfold blkR
  refine decide_eq_decide.2 ?_
  simp only [← UInt8.toNat_inj, show UInt8.toNat 9 = 9 from rfl, show UInt8.toNat 10 = 10 from rfl, show UInt8.toNat 12 = 12 from rfl, show UInt8.toNat 32 = 32 from rfl]
  omega
theorem fgo_blk {s : List UInt8} {a i : Nat} (hai : a ≤ i) (hi : i < s.length) (h : blkR s[i] = true) : fgo ((s.drop a).take (i - a)) (s.drop i) = (if a < i then [(s.drop a).take (i - a)] else []) ++ fgo [] (s.drop (i + 1)) := by
  rw [List.drop_eq_getElem_cons hi, fgo, if_pos h]
  by_cases e : a < i
  · rw [if_pos e, if_neg (by intro h; have := congrArg List.length h; simp at this; omega)]; rfl
  · rw [if_neg e, if_pos (by rw [show i - a = 0 by omega]; rfl)]; rfl
theorem fgo_no {s : List UInt8} {a i : Nat} (hai : a ≤ i) (hi : i < s.length) (h : blkR s[i] = false) : fgo ((s.drop a).take (i - a)) (s.drop i) = fgo ((s.drop a).take (i + 1 - a)) (s.drop (i + 1)) := by
  rw [List.drop_eq_getElem_cons hi, fgo, if_neg (by simp [h])]
  congr 1
  rw [show i + 1 - a = (i - a) + 1 by omega, List.take_add_one]
  simp [show a + (i - a) = i by omega, hi]
theorem fgo_end {s : List UInt8} {a : Nat} (ha : a ≤ s.length) : fgo ((s.drop a).take (s.length - a)) [] = (if a < s.length then [(s.drop a).take (s.length - a)] else []) := by
  rw [fgo]
  by_cases e : a < s.length
  · rw [if_pos e, if_neg (by intro h; have := congrArg List.length h; simp at this; omega)]
  · rw [if_neg e, if_pos (by rw [show s.length - a = 0 by omega]; rfl)]
set_option maxHeartbeats 2000000 in
theorem refFields_ok (s : List UInt8) (hb : s.length ≤ 1048576) (w : World) :
    CallsR Tryz.prog 48 #[str s] w fun v w' => ∃ q c, v = .slice q (fieldsR s).length c ∧ Sep w w' [pRow 1 q (fieldsR s).length c (strs (fieldsR s))] := by
  refine enter (l := [str s]) Tryz.func48 rfl Tryz.ntmps48 (by kernel_rfl) rfl ?_
  refine sgo ?_
  refine wcloop (X := Nat × Nat × Option Addr × Nat × List (List UInt8)) (fun x => [(0, str s), (3, .slice x.2.2.1 x.2.2.2.2.length x.2.2.2.1), (4, int x.2.1), (5, int x.1)])
    (fun x wr => x.2.1 ≤ x.1 ∧ x.1 ≤ s.length + 1 ∧ x.2.2.2.2.length ≤ x.1 ∧ (x.1 ≤ s.length → x.2.2.2.2 ++ fgo ((s.drop x.2.1).take (x.1 - x.2.1)) (s.drop x.1) = fieldsR s) ∧ (x.1 = s.length + 1 → x.2.2.2.2 = fieldsR s) ∧ Sep w wr [pRow 1 x.2.2.1 x.2.2.2.2.length x.2.2.2.1 (strs x.2.2.2.2)])
    (fun x => s.length + 1 - x.1) (0, 0, none, 0, []) ⟨rfl, rfl, rfl, rfl, trivial⟩ ⟨Nat.le_refl 0, Nat.zero_le _, Nat.le_refl 0, fun _ => by simp [fieldsR], fun h => by simp at h, (Sep.start w).push (Frm.refl w) (Row.nil w 1) (by simp [pRow, rb])⟩ ?_
  rintro ⟨i, a, q, cc, out⟩ wr ρ ⟨hai, hil, hol, hA, hB, hS⟩
  dsimp only at *
  refine sgo ?_
  (show WC _ _ _ _ _ _ _; first | refine WC_dec rfl (fun hc => ?_) (fun hc => ?_) | refine WC_cond rfl (fun hc => ?_) (fun hc => ?_))
  · have hle : i ≤ s.length := by omega
    specialize hA hle
    clear hB hc
    refine sgo ?_
    refine wlcallgp (vals := [byt ((s[i]?.getD 0)).toNat]) (fun _ => refBlankB_ok _ _) fun w1 hf1 => ?_
    replace hS := hS.grow hf1
    refine sgo ?_
    (show WC _ _ _ _ _ _ _; first | refine WC_dec rfl (fun hc => ?_) (fun hc => ?_) | refine WC_cond rfl (fun hc => ?_) (fun hc => ?_))
    · simp only [pkb_and, Bool.and_eq_true, decide_eq_true_eq, Bool.not_eq_true'] at hc
      have hlt : i < s.length := by omega
      have hno : blkR s[i] = false := by have := hc.2; simpa [hlt] using this
      refine sgo ?_
      refine ⟨(i + 1, a, q, cc, out), ⟨rfl, rfl, rfl, rfl, trivial⟩, ⟨(by (try dsimp only); omega), (by (try dsimp only); omega), (by (try dsimp only); omega), fun _ => ?_, fun h => by dsimp only at h; omega, hS⟩, (by (try dsimp only); omega)⟩
      dsimp only
      rw [← hA, fgo_no hai hlt hno]
    · simp only [pkb_and, Bool.and_eq_false_iff, decide_eq_false_iff_not, Bool.not_eq_false'] at hc
      have hnext : out ++ (if a < i then [(s.drop a).take (i - a)] else []) ++ (if i < s.length then fgo [] (s.drop (i + 1)) else []) = fieldsR s := by
        rw [← hA]
        by_cases hlt : i < s.length
        · have hyes : blkR s[i] = true := by
            rcases hc with h | h
            · omega
            · simpa [hlt] using h
          rw [fgo_blk hai hlt hyes, if_pos hlt, List.append_assoc]
        · obtain rfl : i = s.length := by omega
          rw [List.drop_length, fgo_end hai, if_neg hlt, List.append_nil]
      refine sgo ?_
      (show WC _ _ _ _ _ _ _; first | refine WC_dec rfl (fun hc => ?_) (fun hc => ?_) | refine WC_cond rfl (fun hc => ?_) (fun hc => ?_))
      · have hlt : a < i := by omega
        rw [if_pos hlt] at hnext
        clear hc
        refine sgo ?_
        refine sb1s hS fun b2 w2 hS => ?_
        refine sgo ?_
        refine sapp hS 1 (hS.own 0 rfl).sg fun q c w3 hS => ?_
        replace hS := hS.tail
        rw [strs_snoc] at hS
        have hn : out.length + 1 = (out ++ [List.take (i - a) (List.drop a s)]).length := by simp
        rw [hn] at hS ⊢
        refine sgo ?_
        refine ⟨(i + 1, i + 1, q, c, out ++ [(s.drop a).take (i - a)]), ⟨rfl, rfl, rfl, rfl, trivial⟩, ⟨Nat.le_refl _, (by (try dsimp only); omega), (by simp; omega), fun h => ?_, fun h => ?_, ?_⟩, (by (try dsimp only); omega)⟩
        · simp only [Nat.sub_self, List.take_zero]
          rw [if_pos (by omega)] at hnext; exact hnext
        · dsimp only at h
          rw [if_neg (by omega), List.append_nil] at hnext; exact hnext
        · exact hS
      · have hlt : ¬ a < i := by omega
        rw [if_neg hlt, List.append_nil] at hnext
        clear hc
        refine sgo ?_
        refine ⟨(i + 1, i + 1, q, cc, out), ⟨rfl, rfl, rfl, rfl, trivial⟩, ⟨Nat.le_refl _, (by (try dsimp only); omega), (by simp; omega), fun h => ?_, fun h => ?_, hS⟩, (by (try dsimp only); omega)⟩
        · simp only [Nat.sub_self, List.take_zero]
          rw [if_pos (by omega)] at hnext; exact hnext
        · dsimp only at h
          rw [if_neg (by omega), List.append_nil] at hnext; exact hnext
  · obtain rfl : i = s.length + 1 := by omega
    refine sgo ?_
    (first | refine fp1 (.inl rfl) rfl rfl ?_ | refine fp2 (.inl rfl) rfl rfl rfl ?_ | refine fp3 (.inl rfl) rfl rfl rfl rfl ?_ | refine fp0 (.inr rfl) rfl ?_ | refine fp0 (.inl rfl) rfl ?_ | refine fp1 (.inr rfl) rfl rfl ?_)
    rw [← hB rfl]
    exact ⟨q, cc, rfl, hS⟩

/-! ## the sets -/
def voidL : List (List UInt8) := fieldsR [97, 114, 101, 97, 32, 98, 97, 115, 101, 32, 98, 114, 32, 99, 111, 108, 32, 101, 109, 98, 101, 100, 32, 104, 114, 32, 105, 109, 103, 32, 105, 110, 112, 117, 116, 32, 108, 105, 110, 107, 32, 109, 101, 116, 97, 32, 115, 111, 117, 114, 99, 101, 32, 116, 114, 97, 99, 107, 32, 119, 98, 114]
def voidT : List UInt8 := [97, 114, 101, 97, 32, 98, 97, 115, 101, 32, 98, 114, 32, 99, 111, 108, 32, 101, 109, 98, 101, 100, 32, 104, 114, 32, 105, 109, 103, 32, 105, 110, 112, 117, 116, 32, 108, 105, 110, 107, 32, 109, 101, 116, 97, 32, 115, 111, 117, 114, 99, 101, 32, 116, 114, 97, 99, 107, 32, 119, 98, 114]
/-- is a name a void element's? -/
def voidR (n : List UInt8) : Bool := decide (n ∈ voidL)
theorem isSet_ok (k : Nat) (hk : k < 16) (w : World) : PureC Tryz.prog 79 #[int k] w (.bool true) := by
  refine enter (l := [int k]) Tryz.func79 rfl Tryz.ntmps79 (by kernel_rfl) rfl ?_
  refine sgo ?_
  (first | refine fp1 (.inl rfl) rfl rfl ?_ | refine fp2 (.inl rfl) rfl rfl rfl ?_ | refine fp3 (.inl rfl) rfl rfl rfl rfl ?_ | refine fp0 (.inr rfl) rfl ?_ | refine fp0 (.inl rfl) rfl ?_ | refine fp1 (.inr rfl) rfl rfl ?_); refine ⟨?_, by (first | exact Frm.refl _ | assumption | exact Go.Sv.Sep.frm (by assumption) | (refine Frm.trans ?_ (by assumption); first | exact Frm.refl _ | assumption))⟩; (try simp only [realB, rv_true, Nat.reduceBEq, cond_true, cond_false, entG, real_lif, updGL])
  congr 1
  simp only [pkb_and, Bool.and_eq_true, decide_eq_true_eq]
  omega
end Go.Proofs.YtmnnffenijjpcaaGreatDoor

/-
  Package names: the sets' names.
-/
set_option linter.unusedSimpArgs false
set_option linter.unusedVariables false
set_option linter.unnecessarySimpa false
namespace Go.Proofs.YtmnnffenijjpcaaGreatDoor
open Go Go.Sv Go.RowKit
end Go.Proofs.YtmnnffenijjpcaaGreatDoor

/-
  Packages names and sieveref04: In, of the void elements.
-/
set_option linter.unusedSimpArgs false
set_option linter.unusedVariables false
set_option linter.unnecessarySimpa false
namespace Go.Proofs.YtmnnffenijjpcaaGreatDoor
open Go Go.Sv Go.RowKit

/-- strings.Fields, of ASCII -/
theorem strFields_ok (s : List UInt8) (hb : s.length ≤ 1048576) (ha : s.all (fun c => decide (c.toNat < 128)) = true) (w : World) (hA : Asc w) :
    CallsR Tryz.prog 80 #[str s] w fun v w' => ∃ b, v = .slice (pb b) (Lib.fields s).length (Lib.fields s).length ∧ Sep w w' [pOwn b (strs (Lib.fields s))] := by
  refine Calls.mono (Tryz.strings_Fields ⟨s.toArray⟩ w (by rw [ByteArray.size]; simp; omega) (fun j b hb => ?_) hA) ?_
  · have hm := List.mem_of_getElem? hb
    have := List.all_eq_true.1 ha b (by simpa using hm)
    simpa using this
  · rintro e w' ⟨rfl, rfl⟩
    refine ⟨_, rfl, w.heap.size, rfl, ?_⟩
    refine (Sep.start w).push (frm_alloc w _) (own_alloc w _ _) (by simp [pOwn])
theorem mem_at {α : Type} {l : List α} {x : α} (h : ∀ i : Nat, (hi : i < l.length) → l[i] ≠ x) : x ∉ l := by
  intro hm
  obtain ⟨i, hi, e⟩ := List.mem_iff_getElem.1 hm
  exact h i hi e
end Go.Proofs.YtmnnffenijjpcaaGreatDoor

/-
  Package names: the sets' names, all of them; which names are in a set.
-/
set_option linter.unusedSimpArgs false
set_option linter.unusedVariables false
set_option linter.unnecessarySimpa false
namespace Go.Proofs.YtmnnffenijjpcaaGreatDoor
open Go Go.Sv Go.RowKit

def setT0 : List UInt8 := [97, 114, 101, 97, 32, 98, 97, 115, 101, 32, 98, 114, 32, 99, 111, 108, 32, 101, 109, 98, 101, 100, 32, 104, 114, 32, 105, 109, 103, 32, 105, 110, 112, 117, 116, 32, 108, 105, 110, 107, 32, 109, 101, 116, 97, 32, 115, 111, 117, 114, 99, 101, 32, 116, 114, 97, 99, 107, 32, 119, 98, 114, 32]
def setT1 : List UInt8 := [97, 114, 101, 97, 32, 98, 97, 115, 101, 32, 98, 114, 32, 99, 111, 108, 32, 101, 109, 98, 101, 100, 32, 104, 114, 32, 105, 109, 103, 32, 105, 110, 112, 117, 116, 32, 108, 105, 110, 107, 32, 109, 101, 116, 97, 32, 115, 111, 117, 114, 99, 101, 32, 116, 114, 97, 99, 107, 32, 119, 98, 114, 32, 98, 97, 115, 101, 102, 111, 110, 116, 32, 98, 103, 115, 111, 117, 110, 100, 32, 102, 114, 97, 109, 101, 32, 107, 101, 121, 103, 101, 110, 32, 112, 97, 114, 97, 109]
def setT2 : List UInt8 := [116, 101, 120, 116, 97, 114, 101, 97, 32, 116, 105, 116, 108, 101]
def setT3 : List UInt8 := [105, 102, 114, 97, 109, 101, 32, 110, 111, 101, 109, 98, 101, 100, 32, 110, 111, 102, 114, 97, 109, 101, 115, 32, 110, 111, 115, 99, 114, 105, 112, 116, 32, 115, 116, 121, 108, 101, 32, 120, 109, 112]
def setT4 : List UInt8 := [97, 32, 98, 32, 98, 105, 103, 32, 99, 111, 100, 101, 32, 101, 109, 32, 102, 111, 110, 116, 32, 105, 32, 110, 111, 98, 114, 32, 115, 32, 115, 109, 97, 108, 108, 32, 115, 116, 114, 105, 107, 101, 32, 115, 116, 114, 111, 110, 103, 32, 116, 116, 32, 117]
def setT5 : List UInt8 := [104, 49, 32, 104, 50, 32, 104, 51, 32, 104, 52, 32, 104, 53, 32, 104, 54]
def setT6 : List UInt8 := [97, 100, 100, 114, 101, 115, 115, 32, 97, 114, 116, 105, 99, 108, 101, 32, 97, 115, 105, 100, 101, 32, 98, 108, 111, 99, 107, 113, 117, 111, 116, 101, 32, 99, 101, 110, 116, 101, 114, 32, 100, 100, 32, 100, 101, 116, 97, 105, 108, 115, 32, 100, 105, 97, 108, 111, 103, 32, 100, 105, 114, 32, 100, 105, 118, 32, 100, 108, 32, 100, 116, 32, 102, 105, 101, 108, 100, 115, 101, 116, 32, 102, 105, 103, 99, 97, 112, 116, 105, 111, 110, 32, 102, 105, 103, 117, 114, 101, 32, 102, 111, 111, 116, 101, 114, 32, 102, 111, 114, 109, 32, 104, 49, 32, 104, 50, 32, 104, 51, 32, 104, 52, 32, 104, 53, 32, 104, 54, 32, 104, 101, 97, 100, 101, 114, 32, 104, 103, 114, 111, 117, 112, 32, 104, 114, 32, 108, 105, 32, 108, 105, 115, 116, 105, 110, 103, 32, 109, 97, 105, 110, 32, 109, 101, 110, 117, 32, 110, 97, 118, 32, 111, 108, 32, 112, 32, 112, 108, 97, 105, 110, 116, 101, 120, 116, 32, 112, 114, 101, 32, 115, 101, 97, 114, 99, 104, 32, 115, 101, 99, 116, 105, 111, 110, 32, 115, 117, 109, 109, 97, 114, 121, 32, 116, 97, 98, 108, 101, 32, 117, 108, 32, 120, 109, 112]
def setT7 : List UInt8 := [100, 100, 32, 100, 116, 32, 108, 105, 32, 111, 112, 116, 103, 114, 111, 117, 112, 32, 111, 112, 116, 105, 111, 110, 32, 112, 32, 114, 98, 32, 114, 112, 32, 114, 116, 32, 114, 116, 99]
def setT8 : List UInt8 := [97, 112, 112, 108, 101, 116, 32, 99, 97, 112, 116, 105, 111, 110, 32, 104, 116, 109, 108, 32, 109, 97, 114, 113, 117, 101, 101, 32, 111, 98, 106, 101, 99, 116, 32, 116, 97, 98, 108, 101, 32, 116, 100, 32, 116, 101, 109, 112, 108, 97, 116, 101, 32, 116, 104, 32]
def setT9 : List UInt8 := [97, 112, 112, 108, 101, 116, 32, 99, 97, 112, 116, 105, 111, 110, 32, 104, 116, 109, 108, 32, 109, 97, 114, 113, 117, 101, 101, 32, 111, 98, 106, 101, 99, 116, 32, 116, 97, 98, 108, 101, 32, 116, 100, 32, 116, 101, 109, 112, 108, 97, 116, 101, 32, 116, 104, 32, 111, 108, 32, 117, 108]
def setT10 : List UInt8 := [97, 112, 112, 108, 101, 116, 32, 99, 97, 112, 116, 105, 111, 110, 32, 104, 116, 109, 108, 32, 109, 97, 114, 113, 117, 101, 101, 32, 111, 98, 106, 101, 99, 116, 32, 116, 97, 98, 108, 101, 32, 116, 100, 32, 116, 101, 109, 112, 108, 97, 116, 101, 32, 116, 104, 32, 98, 117, 116, 116, 111, 110]
def setT11 : List UInt8 := [104, 116, 109, 108, 32, 116, 97, 98, 108, 101, 32, 116, 101, 109, 112, 108, 97, 116, 101]
def setT12 : List UInt8 := [97, 100, 100, 114, 101, 115, 115, 32, 97, 112, 112, 108, 101, 116, 32, 97, 114, 101, 97, 32, 97, 114, 116, 105, 99, 108, 101, 32, 97, 115, 105, 100, 101, 32, 98, 97, 115, 101, 32, 98, 97, 115, 101, 102, 111, 110, 116, 32, 98, 103, 115, 111, 117, 110, 100, 32, 98, 108, 111, 99, 107, 113, 117, 111, 116, 101, 32, 98, 111, 100, 121, 32, 98, 114, 32, 98, 117, 116, 116, 111, 110, 32, 99, 97, 112, 116, 105, 111, 110, 32, 99, 101, 110, 116, 101, 114, 32, 99, 111, 108, 32, 99, 111, 108, 103, 114, 111, 117, 112, 32, 100, 100, 32, 100, 101, 116, 97, 105, 108, 115, 32, 100, 105, 114, 32, 100, 105, 118, 32, 100, 108, 32, 100, 116, 32, 101, 109, 98, 101, 100, 32, 102, 105, 101, 108, 100, 115, 101, 116, 32, 102, 105, 103, 99, 97, 112, 116, 105, 111, 110, 32, 102, 105, 103, 117, 114, 101, 32, 102, 111, 111, 116, 101, 114, 32, 102, 111, 114, 109, 32, 102, 114, 97, 109, 101, 32, 102, 114, 97, 109, 101, 115, 101, 116, 32, 104, 49, 32, 104, 50, 32, 104, 51, 32, 104, 52, 32, 104, 53, 32, 104, 54, 32, 104, 101, 97, 100, 32, 104, 101, 97, 100, 101, 114, 32, 104, 103, 114, 111, 117, 112, 32, 104, 114, 32, 104, 116, 109, 108, 32, 105, 102, 114, 97, 109, 101, 32, 105, 109, 103, 32, 105, 110, 112, 117, 116, 32, 107, 101, 121, 103, 101, 110, 32, 108, 105, 32, 108, 105, 110, 107, 32, 108, 105, 115, 116, 105, 110, 103, 32, 109, 97, 105, 110, 32, 109, 97, 114, 113, 117, 101, 101, 32, 109, 101, 110, 117, 32, 109, 101, 116, 97, 32, 110, 97, 118, 32, 110, 111, 101, 109, 98, 101, 100, 32, 110, 111, 102, 114, 97, 109, 101, 115, 32, 110, 111, 115, 99, 114, 105, 112, 116, 32, 111, 98, 106, 101, 99, 116, 32, 111, 108, 32, 112, 32, 112, 97, 114, 97, 109, 32, 112, 108, 97, 105, 110, 116, 101, 120, 116, 32, 112, 114, 101, 32, 115, 99, 114, 105, 112, 116, 32, 115, 101, 97, 114, 99, 104, 32, 115, 101, 99, 116, 105, 111, 110, 32, 115, 101, 108, 101, 99, 116, 32, 115, 111, 117, 114, 99, 101, 32, 115, 116, 121, 108, 101, 32, 115, 117, 109, 109, 97, 114, 121, 32, 116, 97, 98, 108, 101, 32, 116, 98, 111, 100, 121, 32, 116, 100, 32, 116, 101, 109, 112, 108, 97, 116, 101, 32, 116, 101, 120, 116, 97, 114, 101, 97, 32, 116, 102, 111, 111, 116, 32, 116, 104, 32, 116, 104, 101, 97, 100, 32, 116, 105, 116, 108, 101, 32, 116, 114, 32, 116, 114, 97, 99, 107, 32, 117, 108, 32, 119, 98, 114, 32, 120, 109, 112]
def setT13 : List UInt8 := [97, 112, 112, 108, 101, 116, 32, 99, 97, 112, 116, 105, 111, 110, 32, 109, 97, 114, 113, 117, 101, 101, 32, 111, 98, 106, 101, 99, 116, 32, 116, 100, 32, 116, 101, 109, 112, 108, 97, 116, 101, 32, 116, 104]
def setT14 : List UInt8 := [99, 97, 112, 116, 105, 111, 110, 32, 99, 111, 108, 32, 99, 111, 108, 103, 114, 111, 117, 112, 32, 116, 98, 111, 100, 121, 32, 116, 100, 32, 116, 102, 111, 111, 116, 32, 116, 104, 32, 116, 104, 101, 97, 100, 32, 116, 114]
def setT15 : List UInt8 := [97, 32, 97, 98, 98, 114, 32, 97, 100, 100, 114, 101, 115, 115, 32, 97, 114, 116, 105, 99, 108, 101, 32, 97, 115, 105, 100, 101, 32, 98, 32, 98, 100, 105, 32, 98, 100, 111, 32, 98, 108, 111, 99, 107, 113, 117, 111, 116, 101, 32, 98, 114, 32, 99, 97, 112, 116, 105, 111, 110, 32, 99, 101, 110, 116, 101, 114, 32, 99, 105, 116, 101, 32, 99, 111, 100, 101, 32, 99, 111, 108, 32, 99, 111, 108, 103, 114, 111, 117, 112, 32, 100, 97, 116, 97, 32, 100, 100, 32, 100, 101, 108, 32, 100, 101, 116, 97, 105, 108, 115, 32, 100, 102, 110, 32, 100, 105, 97, 108, 111, 103, 32, 100, 105, 118, 32, 100, 108, 32, 100, 116, 32, 101, 109, 32, 102, 105, 103, 99, 97, 112, 116, 105, 111, 110, 32, 102, 105, 103, 117, 114, 101, 32, 102, 111, 111, 116, 101, 114, 32, 104, 49, 32, 104, 50, 32, 104, 51, 32, 104, 52, 32, 104, 53, 32, 104, 54, 32, 104, 101, 97, 100, 101, 114, 32, 104, 103, 114, 111, 117, 112, 32, 104, 114, 32, 105, 32, 105, 109, 103, 32, 105, 110, 115, 32, 107, 98, 100, 32, 108, 97, 98, 101, 108, 32, 108, 105, 32, 109, 97, 105, 110, 32, 109, 97, 114, 107, 32, 109, 101, 110, 117, 32, 110, 97, 118, 32, 111, 108, 32, 112, 32, 112, 114, 101, 32, 113, 32, 115, 32, 115, 97, 109, 112, 32, 115, 101, 97, 114, 99, 104, 32, 115, 101, 99, 116, 105, 111, 110, 32, 115, 109, 97, 108, 108, 32, 115, 112, 97, 110, 32, 115, 116, 114, 111, 110, 103, 32, 115, 117, 98, 32, 115, 117, 109, 109, 97, 114, 121, 32, 115, 117, 112, 32, 116, 97, 98, 108, 101, 32, 116, 98, 111, 100, 121, 32, 116, 100, 32, 116, 101, 120, 116, 97, 114, 101, 97, 32, 116, 102, 111, 111, 116, 32, 116, 104, 32, 116, 104, 101, 97, 100, 32, 116, 105, 109, 101, 32, 116, 114, 32, 117, 32, 117, 108, 32, 118, 97, 114, 32, 119, 98, 114]
def setTexts : List (List UInt8) := [setT0, setT1, setT2, setT3, setT4, setT5, setT6, setT7, setT8, setT9, setT10, setT11, setT12, setT13, setT14, setT15]
set_option maxHeartbeats 4000000 in
set_option maxRecDepth 100000 in
/-- the sets' names -/
theorem listsAll_ok (w : World) : CallsR Tryz.prog 81 #[] w fun v w' => Frm w w' ∧ v = .agg ⟨strs setTexts⟩ := by
  refine enter (l := []) Tryz.func81 rfl Tryz.ntmps81 (by kernel_rfl) rfl ?_
  have hS := Sep.start w
  refine sgo ?_
  refine salloc hS fun b0 w0 hS => ?_
  refine sgo ?_
  refine salloc hS fun b1 w1 hS => ?_
  refine sgo ?_
  replace hS : Sep w w1 [pOwn b1 (strs (List.replicate 16 [])), pOwn b0 (strs (List.replicate 16 []))] := hS
  iterate 15 (refine sst_str hS 0 fun w2 hS => ?_; refine sgo ?_)
  refine sst_str hS 0 fun w2 hS => ?_
  obtain ⟨L, hL, hlen, h1, hS⟩ : ∃ L : List Value, L = strs setTexts ∧ L.length = 16 ∧ (L.all fun c => c.oneCell') = true ∧ Sep w w2 [pOwn b1 L, pOwn b0 (strs (List.replicate 16 []))] := ⟨strs setTexts, rfl, rfl, rfl, hS⟩
  refine sgo ?_
  refine ssta (vs := L) hS 1 (fun w3 hS => ?_) (hy := by rw [show (Value.agg ⟨L⟩) = .agg ⟨(L.drop 0).take 16⟩ from by rw [List.drop_zero, ← hlen, List.take_length]]; rfl) (hv := ⟨hlen, rfl⟩) (h1 := h1)
  refine sgo ?_
  have ho := hS.own 1 rfl
  refine fpc (l := L) (zv := .agg ⟨strs (List.replicate 16 [])⟩) (.inl rfl) rfl rfl rfl ho (hi := by rw [hlen]; infer_instance) ⟨hS.frm, by rw [hL]⟩
def setT (k : Nat) : List UInt8 := setTexts.getD k []
/-- is a name in the k-th set? -/
def inSet (k : Nat) (n : List UInt8) : Bool := decide (n ∈ Lib.fields (setT k))
theorem setT_facts : setTexts.length = 16 ∧ (setTexts.all fun t => decide (t.length ≤ 1048576) && decide ((Lib.fields t).length ≤ 1048576) && t.all fun c => decide (c.toNat < 128)) = true := by decide +kernel
theorem setT_fact {k : Nat} (hk : k < 16) : setTexts[k]? = some (setT k) ∧ ((setT k).length ≤ 1048576 ∧ (Lib.fields (setT k)).length ≤ 1048576) ∧ (setT k).all (fun c => decide (c.toNat < 128)) = true := by
  have h1 : setTexts[k]? = some setTexts[k] := List.getElem?_eq_getElem (by rw [setT_facts.1]; exact hk)
  have h2 : setT k = setTexts[k] := by unfold setT; rw [List.getD_eq_getElem?_getD, h1]; rfl
  have h3 := List.all_eq_true.1 setT_facts.2 setTexts[k] (List.getElem_mem _)
  rw [Bool.and_eq_true, Bool.and_eq_true, decide_eq_true_eq, decide_eq_true_eq] at h3
  rw [h2]
  exact ⟨h1, h3⟩
set_option maxHeartbeats 1000000 in
theorem inK_ok (k : Nat) (hk : k < 16) (n : List UInt8) (w : World) (hA : Asc w) : PureC Tryz.prog 57 #[str n, int k] w (.bool (inSet k n)) := by
  obtain ⟨ht1, ⟨ht2, htf⟩, ht3⟩ := setT_fact hk
  unfold inSet
  generalize setT k = T at *
  refine enter (l := [str n, int k]) Tryz.func57 rfl Tryz.ntmps57 (by kernel_rfl) rfl ?_
  refine sgo ?_
  refine wlpure (isSet_ok k hk _) fun w1 hf1 => ?_
  refine sgo ?_
  refine wlcall (listsAll_ok w1) ?_
  rintro _ w2 ⟨hf2, rfl⟩
  have hl16 : setTexts.length = 16 := setT_facts.1
  have hcell : (Array.mk (strs setTexts))[k]? = some (str T) := by simpa using strs_at ht1
  have hsl := strs_len setTexts
  generalize strs setTexts = L at *
  rw [hl16] at hsl
  clear hl16 ht1
  refine wlp ?_
  refine wl_idx ?_ (hy := y_aidx rfl rfl hk hcell)
  refine sgo ?_
  refine wlcall (strFields_ok T ht2 ht3 w2 ((hA.frm hf1).frm hf2)) ?_
  rintro _ w3 ⟨b, rfl, hS⟩
  generalize Lib.fields T = F at *
  have hf := hf1.trans hf2
  replace hS : Sep w w3 [pOwn b (strs F)] := ⟨hf.trans hS.frm, hS.ok, fun c hc x hx => Nat.le_trans hf.size (hS.low c hc x hx), hS.apart⟩
  refine sgo ?_
  refine wcloop (X := Nat) (fun i => [(0, str n), (13, .slice (pb b) F.length F.length), (14, int F.length), (15, int i)])
    (fun i wr => i ≤ F.length ∧ (∀ j, (hj : j < F.length) → j < i → F[j] ≠ n) ∧ wr = w3) (fun i => F.length - i) 0 ⟨rfl, rfl, rfl, rfl, trivial⟩ ⟨Nat.zero_le _, fun _ _ h => absurd h (by omega), rfl⟩ ?_
  rintro i wr ρ ⟨hil, hj, rfl⟩
  refine sgo ?_
  (show WC _ _ _ _ _ _ _; first | refine WC_dec rfl (fun hc => ?_) (fun hc => ?_) | refine WC_cond rfl (fun hc => ?_) (fun hc => ?_))
  · have hlt : i < F.length := by omega
    have hg := strs_get hlt
    generalize hx : F[i] = x at *
    clear hc
    refine sgo ?_
    (show WC _ _ _ _ _ _ _; first | refine WC_dec rfl (fun hc => ?_) (fun hc => ?_) | refine WC_cond rfl (fun hc => ?_) (fun hc => ?_))
    · refine sgo ?_
      (first | refine fp1 (.inl rfl) rfl rfl ?_ | refine fp2 (.inl rfl) rfl rfl rfl ?_ | refine fp3 (.inl rfl) rfl rfl rfl rfl ?_ | refine fp0 (.inr rfl) rfl ?_ | refine fp0 (.inl rfl) rfl ?_ | refine fp1 (.inr rfl) rfl rfl ?_); refine ⟨?_, by (first | exact Frm.refl _ | assumption | exact Go.Sv.Sep.frm (by assumption) | (refine Frm.trans ?_ (by assumption); first | exact Frm.refl _ | assumption))⟩; (try simp only [realB, rv_true, Nat.reduceBEq, cond_true, cond_false, entG, real_lif, updGL])
      rw [decide_eq_true]
      rw [← hc, ← hx]; exact List.getElem_mem hlt
    · refine sgo ?_
      refine ⟨i + 1, ⟨rfl, rfl, rfl, rfl, trivial⟩, ⟨hlt, fun j hj' hji => ?_, rfl⟩, (by (try dsimp only); omega)⟩
      rcases Nat.lt_or_ge j i with h | h
      · exact hj j hj' h
      · obtain rfl : j = i := by omega
        rw [hx]; exact hc
  · refine sgo ?_
    (first | refine fp1 (.inl rfl) rfl rfl ?_ | refine fp2 (.inl rfl) rfl rfl rfl ?_ | refine fp3 (.inl rfl) rfl rfl rfl rfl ?_ | refine fp0 (.inr rfl) rfl ?_ | refine fp0 (.inl rfl) rfl ?_ | refine fp1 (.inr rfl) rfl rfl ?_); refine ⟨?_, by (first | exact Frm.refl _ | assumption | exact Go.Sv.Sep.frm (by assumption) | (refine Frm.trans ?_ (by assumption); first | exact Frm.refl _ | assumption))⟩; (try simp only [realB, rv_true, Nat.reduceBEq, cond_true, cond_false, entG, real_lif, updGL])
    rw [decide_eq_false]
    exact mem_at fun j hj' => hj j hj' (by omega)
end Go.Proofs.YtmnnffenijjpcaaGreatDoor

/-
  Package nest, as a law of lists: what a name asks of a stack; what it asks leaves the stack right.
-/
set_option linter.unusedSimpArgs false
set_option linter.unusedVariables false
set_option linter.unnecessarySimpa false
namespace Go.Proofs.YtmnnffenijjpcaaGreatDoor
open Go Go.Sv Go.RowKit

/-! ## names -/
def nA : List UInt8 := [97]
def nP : List UInt8 := [112]
def nTable : List UInt8 := [116, 97, 98, 108, 101]
def nTbody : List UInt8 := [116, 98, 111, 100, 121]
def nTr : List UInt8 := [116, 114]
def nTd : List UInt8 := [116, 100]
def nTh : List UInt8 := [116, 104]
def nCaption : List UInt8 := [99, 97, 112, 116, 105, 111, 110]
def nColgroup : List UInt8 := [99, 111, 108, 103, 114, 111, 117, 112]
def nThead : List UInt8 := [116, 104, 101, 97, 100]
def nTfoot : List UInt8 := [116, 102, 111, 111, 116]
def nCol : List UInt8 := [99, 111, 108]
def nLi : List UInt8 := [108, 105]
def nUl : List UInt8 := [117, 108]
def nOl : List UInt8 := [111, 108]
def nMenu : List UInt8 := [109, 101, 110, 117]
def nDl : List UInt8 := [100, 108]
def nDd : List UInt8 := [100, 100]
def nDt : List UInt8 := [100, 116]
def nTextarea : List UInt8 := [116, 101, 120, 116, 97, 114, 101, 97]
def nPre : List UInt8 := [112, 114, 101]
abbrev Nm := List UInt8
def isCell (n : Nm) : Bool := decide (n = nTd) || decide (n = nTh) || decide (n = nCaption)
def isWall (n : Nm) : Bool := isCell n || decide (n = nTable)
def isGroup (n : Nm) : Bool := decide (n = nThead) || decide (n = nTbody) || decide (n = nTfoot)
def isLst (n : Nm) : Bool := decide (n = nUl) || decide (n = nOl) || decide (n = nMenu)
def isHead (n : Nm) : Bool := inSet 5 n
def isBlk (n : Nm) : Bool := inSet 6 n
def isAllow (n : Nm) : Bool := inSet 15 n
def isVoid (n : Nm) : Bool := inSet 0 n
def isNm (m : Nm) (n : Nm) : Bool := decide (n = m)
def noNm (_ : Nm) : Bool := false
/-! ## the topmost name that is one, above the topmost that stops -/
def topK (is stops : Nm → Bool) (s : List Nm) : Nat → Option Nat
  | 0 => none
  | k + 1 => if stops (s.getD k []) then none else if is (s.getD k []) then some k else topK is stops s k
def tpm (is stops : Nm → Bool) (s : List Nm) : Option Nat := topK is stops s s.length
def topR (s : List Nm) : Nm := s.getLast?.getD []
theorem topK_app (is stops : Nm → Bool) (s t : List Nm) : ∀ k, k ≤ s.length → topK is stops (s ++ t) k = topK is stops s k
  | 0, _ => rfl
  | k + 1, h => by
    have hg : (s ++ t).getD k [] = s.getD k [] := by
      rw [List.getD_eq_getElem?_getD, List.getD_eq_getElem?_getD, List.getElem?_append_left (by omega)]
    simp only [topK]
    rw [hg, topK_app is stops s t k (by omega)]
theorem tpm_snoc (is stops : Nm → Bool) (s : List Nm) (x : Nm) : tpm is stops (s ++ [x]) = if stops x then none else if is x then some s.length else tpm is stops s := by
  have hg : (s ++ [x]).getD s.length [] = x := by rw [List.getD_eq_getElem?_getD]; simp
  unfold tpm
  rw [List.length_append, List.length_singleton]
  simp only [topK]
  rw [hg, topK_app is stops s [x] s.length (Nat.le_refl _)]
theorem snoc_cases (s : List Nm) : s = [] ∨ ∃ t x, s = t ++ [x] := by
  rcases List.eq_nil_or_concat s with h | ⟨t, x, h⟩
  · exact .inl h
  · exact .inr ⟨t, x, by rw [h, List.concat_eq_append]⟩
theorem snoc_ind {P : List Nm → Prop} (h0 : P []) (h1 : ∀ s x, P s → P (s ++ [x])) : ∀ s, P s := by
  suffices h : ∀ (n : Nat) (s : List Nm), s.length = n → P s from fun s => h _ s rfl
  intro n
  induction n with
  | zero => intro s hs; obtain rfl := List.eq_nil_of_length_eq_zero hs; exact h0
  | succ n ih =>
    intro s hs
    rcases snoc_cases s with rfl | ⟨t, x, rfl⟩
    · cases hs
    · exact h1 t x (ih t (by simpa using hs))
theorem topR_snoc (s : List Nm) (x : Nm) : topR (s ++ [x]) = x := by simp [topR]
theorem topR_nil : topR [] = [] := rfl
theorem tpm_some {is stops : Nm → Bool} {i : Nat} : ∀ {s : List Nm}, tpm is stops s = some i → ∃ x t, s = s.take i ++ (x :: t) ∧ i < s.length ∧ is x = true ∧ stops x = false ∧ ∀ y ∈ t, stops y = false ∧ is y = false := by
  intro s
  refine snoc_ind (P := fun s => tpm is stops s = some i → ∃ x t, s = s.take i ++ (x :: t) ∧ i < s.length ∧ is x = true ∧ stops x = false ∧ ∀ y ∈ t, stops y = false ∧ is y = false) ?_ ?_ s
  · intro h; cases h
  · intro s x ih h
    rw [tpm_snoc] at h
    by_cases hs : stops x = true
    · rw [if_pos hs] at h; cases h
    · rw [if_neg hs] at h
      have hs : stops x = false := by simpa using hs
      by_cases hi : is x = true
      · rw [if_pos hi] at h
        injection h with h
        subst h
        exact ⟨x, [], by simp, by simp, hi, hs, by simp⟩
      · rw [if_neg hi] at h
        have hi : is x = false := by simpa using hi
        obtain ⟨y, t, h1, h2, h3, h4, h5⟩ := ih h
        refine ⟨y, t ++ [x], ?_, by simp; omega, h3, h4, ?_⟩
        · rw [List.take_append_of_le_length (by omega), ← List.cons_append, ← List.append_assoc, ← h1]
        · intro z hz
          rcases List.mem_append.1 hz with hz | hz
          · exact h5 z hz
          · obtain rfl := List.mem_singleton.1 hz; exact ⟨hs, hi⟩
theorem tpm_down {is stops : Nm → Bool} (s : List Nm) : ∀ t : List Nm, tpm is stops (s ++ t) = none → (∀ y ∈ t, stops y = false) → tpm is stops s = none := by
  refine snoc_ind ?_ ?_
  · intro h _; simpa using h
  · intro t x ih h hx
    rw [← List.append_assoc, tpm_snoc, if_neg (by simp [hx x (by simp)])] at h
    split at h
    · cases h
    · exact ih h fun y hy => hx y (by simp [hy])
/-! ## what a name asks -/
def cutW (s : List Nm) : Option Nat → List Nm
  | some i => s.take i
  | none => s
def innerP (n : Nm) : List Nm :=
  if n = nTable then [nTbody, nTr, nTd] else if isGroup n then [nTr, nTd] else if n = nTr then [nTd] else if isLst n then [nLi] else if n = nDl then [nDd] else []
def innerS (s : List Nm) : List Nm := if topR s = nColgroup then s.dropLast else s
def innerR (s : List Nm) : List Nm × List Nm := (innerS s, innerP (topR (innerS s)))
def isPart (n : Nm) : Bool := decide (n = nCaption) || decide (n = nColgroup) || isGroup n || decide (n = nTd) || decide (n = nTh) || decide (n = nCol) || decide (n = nTr)
def stands (name n : Nm) : Bool :=
  if name = nTd ∨ name = nTh then decide (n = nTr) || isGroup n || decide (n = nTable)
  else if name = nCol then decide (n = nColgroup) || decide (n = nTable)
  else if name = nTr then isGroup n || decide (n = nTable)
  else decide (n = nTable)
def partPut (name n : Nm) : List Nm :=
  if name = nTd ∨ name = nTh then (if n = nTr then [] else if n = nTable then [nTbody, nTr] else [nTr])
  else if name = nCol then (if n = nTable then [nColgroup] else [])
  else if name = nTr then (if n = nTable then [nTbody] else [])
  else []
def ownR (name : Nm) (s : List Nm) : List Nm × List Nm :=
  match tpm (stands name) noNm s with
  | some at_ => (s.take (at_ + 1), partPut name (s.getD at_ []))
  | none => (innerS (cutW s (tpm (isNm nP) isWall s)), innerP (topR (innerS (cutW s (tpm (isNm nP) isWall s)))) ++ [nTable] ++ partPut name nTable)
def itemR (is : Nm → Bool) (around : Nm) (s : List Nm) : List Nm × List Nm :=
  match tpm is isWall s with
  | some at_ => (s.take (at_ + 1), [])
  | none => (innerS s, innerP (topR (innerS s)) ++ [around])
def ask0 (s : List Nm) : List Nm := if topR s = nTextarea then s.dropLast else s
def ask1 (name : Nm) (s : List Nm) : List Nm := if name = nA then cutW s (tpm (isNm nA) isCell s) else s
def ask2 (name : Nm) (s : List Nm) : List Nm := if isHead name then cutW s (tpm isHead isWall s) else s
def ask3 (name : Nm) (s : List Nm) : List Nm := if isBlk name then cutW s (tpm (isNm nP) isWall s) else s
def askE (name : Nm) (s : List Nm) : List Nm × List Nm :=
  if isPart name then ownR name s else if name = nLi then itemR isLst nUl s else if name = nDt ∨ name = nDd then itemR (isNm nDl) nDl s else innerR s
def askR (s : List Nm) (name : Nm) : List Nm × List Nm := askE name (ask3 name (ask2 name (ask1 name (ask0 s))))
def stillR (s : List Nm) (name : Nm) : Bool := decide (askR s name = (s, []))
def rightR (s : List Nm) : Bool := (List.range s.length).all fun i => isAllow (s.getD i []) && !isVoid (s.getD i []) && stillR (s.take i) (s.getD i [])
theorem right_snoc (s : List Nm) (x : Nm) : rightR (s ++ [x]) = (rightR s && (isAllow x && !isVoid x && stillR s x)) := by
  unfold rightR
  rw [List.length_append, List.length_singleton, List.range_succ, List.all_append]
  congr 1
  · rw [Bool.eq_iff_iff, List.all_eq_true, List.all_eq_true]
    have hh : ∀ i ∈ List.range s.length, (s ++ [x]).getD i [] = s.getD i [] ∧ (s ++ [x]).take i = s.take i := by
      intro i hi
      have := List.mem_range.1 hi
      refine ⟨?_, List.take_append_of_le_length (by omega)⟩
      rw [List.getD_eq_getElem?_getD, List.getD_eq_getElem?_getD, List.getElem?_append_left (by omega)]
    constructor
    · intro h i hi; have := h i hi; rwa [(hh i hi).1, (hh i hi).2] at this
    · intro h i hi; have := h i hi; rwa [(hh i hi).1, (hh i hi).2]
  · simp [List.getD_eq_getElem?_getD]
theorem right_pre (s : List Nm) : ∀ t : List Nm, rightR (s ++ t) = true → rightR s = true := by
  refine snoc_ind ?_ ?_
  · intro h; simpa using h
  · intro t x ih h
    rw [← List.append_assoc, right_snoc, Bool.and_eq_true] at h
    exact ih h.1
theorem right_take {s : List Nm} (h : rightR s = true) (i : Nat) : rightR (s.take i) = true := right_pre _ (s.drop i) (by rw [List.take_append_drop]; exact h)
/-! ## a name that asks nothing -/
theorem cutW_le (s : List Nm) (o : Option Nat) : (cutW s o).length ≤ s.length := by
  cases o with
  | none => exact Nat.le_refl _
  | some i => simp only [cutW, List.length_take]; omega
theorem cutW_pre (s : List Nm) (o : Option Nat) : ∃ i, cutW s o = s.take i := by
  cases o with
  | none => exact ⟨s.length, by simp [cutW]⟩
  | some i => exact ⟨i, rfl⟩
theorem cut_same {is stops : Nm → Bool} {s : List Nm} (h : (cutW s (tpm is stops s)).length = s.length) : tpm is stops s = none := by
  cases ht : tpm is stops s with
  | none => rfl
  | some i =>
    obtain ⟨x, t, h1, h2, _⟩ := tpm_some ht
    rw [ht] at h
    simp only [cutW, List.length_take] at h
    omega
theorem drop_same {s : List Nm} (hs : s ≠ []) : s.dropLast.length < s.length := by
  have := List.length_pos_iff.2 hs
  rw [List.length_dropLast]; omega
theorem ask0_le (s : List Nm) : (ask0 s).length ≤ s.length := by unfold ask0; split <;> simp
theorem ask1_le (n : Nm) (s : List Nm) : (ask1 n s).length ≤ s.length := by unfold ask1; split; exact cutW_le _ _; exact Nat.le_refl _
theorem ask2_le (n : Nm) (s : List Nm) : (ask2 n s).length ≤ s.length := by unfold ask2; split; exact cutW_le _ _; exact Nat.le_refl _
theorem ask3_le (n : Nm) (s : List Nm) : (ask3 n s).length ≤ s.length := by unfold ask3; split; exact cutW_le _ _; exact Nat.le_refl _
theorem innerS_le (s : List Nm) : (innerS s).length ≤ s.length := by unfold innerS; split <;> simp
theorem askE_le (n : Nm) (s : List Nm) : (askE n s).1.length ≤ s.length := by
  unfold askE
  split
  · unfold ownR
    split
    · simp; omega
    · exact Nat.le_trans (innerS_le _) (cutW_le _ _)
  split
  · unfold itemR
    split
    · simp; omega
    · exact innerS_le _
  split
  · unfold itemR
    split
    · simp; omega
    · exact innerS_le _
  · exact innerS_le _
end Go.Proofs.YtmnnffenijjpcaaGreatDoor

/-
  Package nest, as a law of lists: what a name asks leaves the stack right.
-/
set_option linter.unusedSimpArgs false
set_option linter.unusedVariables false
set_option linter.unnecessarySimpa false
namespace Go.Proofs.YtmnnffenijjpcaaGreatDoor
open Go Go.Sv Go.RowKit

/-! ## facts of the sets -/
theorem in_all {k : Nat} {f : Nm → Bool} (h : (Lib.fields (setT k)).all f = true) {n : Nm} (hn : inSet k n = true) : f n = true := List.all_eq_true.1 h n (of_decide_eq_true hn)
theorem head_facts {n : Nm} (h : isHead n = true) : isBlk n = true ∧ isPart n = false ∧ n ≠ nLi ∧ n ≠ nDt ∧ n ≠ nDd ∧ n ≠ nA ∧ n ≠ nP ∧ isWall n = false := by
  have := in_all (k := 5) (f := fun n => isBlk n && (!isPart n && (!decide (n = nLi) && (!decide (n = nDt) && (!decide (n = nDd) && (!decide (n = nA) && (!decide (n = nP) && !isWall n))))))) (by decide +kernel) h
  simpa using this
theorem const_facts : isBlk nLi = true ∧ isBlk nDt = true ∧ isBlk nDd = true ∧ isBlk nUl = true ∧ isBlk nOl = true ∧ isBlk nMenu = true ∧ isBlk nDl = true ∧ isBlk nTable = true ∧ isBlk nP = true ∧ isBlk nA = false ∧ isHead nA = false ∧ isHead nLi = false ∧ isHead nDt = false ∧ isHead nDd = false ∧ isHead nTable = false ∧ isHead nUl = false ∧ isHead nDl = false ∧ isHead nOl = false ∧ isHead nMenu = false ∧ isHead nP = false := by decide +kernel
theorem part_facts {n : Nm} (h : isPart n = true) : isBlk n = false ∧ isHead n = false ∧ n ≠ nA := by
  simp only [isPart, isGroup, Bool.or_eq_true, decide_eq_true_eq] at h
  rcases h with ((((((rfl | rfl) | ((rfl | rfl) | rfl)) | rfl) | rfl) | rfl) | rfl) <;> decide +kernel
/-- the names that are put in -/
def puts : List Nm := [nTable, nTbody, nTr, nTd, nLi, nDd, nUl, nDl, nColgroup]
theorem put_facts : (puts.all fun n => isAllow n && !isVoid n && !isHead n && !decide (n = nA) && !decide (n = nP) && !decide (n = nTextarea)) = true := by decide +kernel
/-- what a name asks nothing of -/
structure Still (t : List Nm) (x : Nm) : Prop where
  area : topR t ≠ nTextarea
  a : x = nA → tpm (isNm nA) isCell t = none
  head : isHead x = true → tpm isHead isWall t = none
  blk : isBlk x = true → tpm (isNm nP) isWall t = none
  last : askE x t = (t, [])
theorem still_of {t : List Nm} {x : Nm} (h : Still t x) : askR t x = (t, []) := by
  have e0 : ask0 t = t := by unfold ask0; rw [if_neg h.area]
  have e1 : ask1 x t = t := by
    unfold ask1; split
    · rename_i hx; rw [h.a hx]; rfl
    · rfl
  have e2 : ask2 x t = t := by
    unfold ask2; split
    · rename_i hx; rw [h.head hx]; rfl
    · rfl
  have e3 : ask3 x t = t := by
    unfold ask3; split
    · rename_i hx; rw [h.blk hx]; rfl
    · rfl
  unfold askR
  rw [e0, e1, e2, e3]
  exact h.last
theorem of_still {t : List Nm} {x : Nm} (h : askR t x = (t, [])) : Still t x := by
  have hl : (askR t x).1.length = t.length := by rw [h]
  unfold askR at hl
  have l0 := ask0_le t
  have l1 := ask1_le x (ask0 t)
  have l2 := ask2_le x (ask1 x (ask0 t))
  have l3 := ask3_le x (ask2 x (ask1 x (ask0 t)))
  have l4 := askE_le x (ask3 x (ask2 x (ask1 x (ask0 t))))
  have area : topR t ≠ nTextarea := by
    intro ht
    have hne : t ≠ [] := by rintro rfl; revert ht; decide
    have := drop_same hne
    have e : ask0 t = t.dropLast := by unfold ask0; rw [if_pos ht]
    rw [e] at l1 l2 l3 l4 hl
    omega
  have e0 : ask0 t = t := by unfold ask0; rw [if_neg area]
  rw [e0] at l1 l2 l3 l4 hl
  have ha : x = nA → tpm (isNm nA) isCell t = none := by
    intro hx
    refine cut_same ?_
    have e : ask1 x t = cutW t (tpm (isNm nA) isCell t) := by unfold ask1; rw [if_pos hx]
    have := cutW_le t (tpm (isNm nA) isCell t)
    rw [e] at l2 l3 l4 hl
    omega
  have e1 : ask1 x t = t := by
    unfold ask1; split
    · rename_i hx; rw [ha hx]; rfl
    · rfl
  rw [e1] at l2 l3 l4 hl
  have hh : isHead x = true → tpm isHead isWall t = none := by
    intro hx
    refine cut_same ?_
    have e : ask2 x t = cutW t (tpm isHead isWall t) := by unfold ask2; rw [if_pos hx]
    have := cutW_le t (tpm isHead isWall t)
    rw [e] at l3 l4 hl
    omega
  have e2 : ask2 x t = t := by
    unfold ask2; split
    · rename_i hx; rw [hh hx]; rfl
    · rfl
  rw [e2] at l3 l4 hl
  have hb : isBlk x = true → tpm (isNm nP) isWall t = none := by
    intro hx
    refine cut_same ?_
    have e : ask3 x t = cutW t (tpm (isNm nP) isWall t) := by unfold ask3; rw [if_pos hx]
    have := cutW_le t (tpm (isNm nP) isWall t)
    rw [e] at l4 hl
    omega
  have e3 : ask3 x t = t := by
    unfold ask3; split
    · rename_i hx; rw [hb hx]; rfl
    · rfl
  refine ⟨area, ha, hh, hb, ?_⟩
  unfold askR at h
  rwa [e0, e1, e2, e3] at h
theorem right_iff {s : List Nm} {x : Nm} : rightR (s ++ [x]) = true ↔ rightR s = true ∧ isAllow x = true ∧ isVoid x = false ∧ Still s x := by
  rw [right_snoc]
  simp only [Bool.and_eq_true, Bool.not_eq_true', stillR, decide_eq_true_eq]
  constructor
  · rintro ⟨h1, ⟨h2, h3⟩, h4⟩; exact ⟨h1, h2, h3, of_still h4⟩
  · rintro ⟨h1, h2, h3, h4⟩; exact ⟨h1, ⟨h2, h3⟩, still_of h4⟩
/-- an element of a right stack asks nothing of those below it -/
theorem right_at {s t : List Nm} {x : Nm} (h : rightR (s ++ x :: t) = true) : rightR s = true ∧ isAllow x = true ∧ isVoid x = false ∧ Still s x := by
  refine right_iff.1 (right_pre _ t ?_)
  simpa using h
/-! ## what the last step answers -/
theorem top_last {s : List Nm} (h : s ≠ []) : s = s.dropLast ++ [topR s] := by
  rcases snoc_cases s with rfl | ⟨t, x, rfl⟩
  · exact absurd rfl h
  · simp [topR]
theorem askE_part {x : Nm} (h : isPart x = true) (s : List Nm) : askE x s = ownR x s := by unfold askE; rw [if_pos h]
theorem askE_li (s : List Nm) : askE nLi s = itemR isLst nUl s := by unfold askE; rw [if_neg (by decide), if_pos rfl]
theorem askE_d {x : Nm} (h : x = nDt ∨ x = nDd) (s : List Nm) : askE x s = itemR (isNm nDl) nDl s := by
  unfold askE
  rw [if_neg (by rcases h with rfl | rfl <;> decide), if_neg (by rcases h with rfl | rfl <;> decide), if_pos h]
theorem askE_other {x : Nm} (h : isPart x = false) (h1 : x ≠ nLi) (h2 : x ≠ nDt) (h3 : x ≠ nDd) (s : List Nm) : askE x s = innerR s := by
  unfold askE
  rw [if_neg (by simp [h]), if_neg h1, if_neg (by rintro (e | e); exact h2 e; exact h3 e)]
/-- a part asks nothing just where it may stand directly -/
theorem part_still {x : Nm} (hx : isPart x = true) {s : List Nm} {y : Nm} (h1 : stands x y = true) (h2 : partPut x y = []) : askE x (s ++ [y]) = (s ++ [y], []) := by
  rw [askE_part hx]
  unfold ownR
  rw [tpm_snoc, if_neg (by simp [noNm]), if_pos h1]
  dsimp only
  rw [List.take_of_length_le (by simp), show (s ++ [y]).getD s.length [] = y by rw [List.getD_eq_getElem?_getD]; simp, h2]
theorem still_part {x : Nm} (hx : isPart x = true) {s : List Nm} (h : askE x s = (s, [])) : ∃ t y, s = t ++ [y] ∧ stands x y = true ∧ partPut x y = [] := by
  rw [askE_part hx] at h
  unfold ownR at h
  cases ht : tpm (stands x) noNm s with
  | none =>
    rw [ht] at h
    injection h with _ h
    simp at h
  | some i =>
    rw [ht] at h
    obtain ⟨y, t, h1, h2, h3, h4, h5⟩ := tpm_some ht
    injection h with h6 h7
    have hl := congrArg List.length h6
    rw [List.length_take] at hl
    have hti : t = [] := by
      have := congrArg List.length h1
      rw [List.length_append, List.length_take, List.length_cons] at this
      exact List.eq_nil_of_length_eq_zero (by omega)
    subst hti
    refine ⟨s.take i, y, h1, h3, ?_⟩
    rw [← h7]
    congr 1
    conv => rhs; arg 1; rw [h1]
    rw [List.getD_eq_getElem?_getD, List.getElem?_append_right (by rw [List.length_take]; omega), List.length_take, show i - min i s.length = 0 by omega]
    rfl
theorem item_still {is : Nm → Bool} {around : Nm} {s : List Nm} {y : Nm} (h1 : is y = true) (h2 : isWall y = false) : itemR is around (s ++ [y]) = (s ++ [y], []) := by
  unfold itemR
  rw [tpm_snoc, if_neg (by simp [h2]), if_pos h1]
  dsimp only
  rw [List.take_of_length_le (by simp)]
theorem inner_still {s : List Nm} (h1 : topR s ≠ nColgroup) (h2 : innerP (topR s) = []) : innerR s = (s, []) := by
  have e : innerS s = s := by unfold innerS; rw [if_neg h1]
  unfold innerR
  rw [e, h2]
end Go.Proofs.YtmnnffenijjpcaaGreatDoor

/-
  Package nest, as a law of lists: behind what a name asks the stack is right, and the name asks nothing more.
-/
set_option linter.unusedSimpArgs false
set_option linter.unusedVariables false
set_option linter.unnecessarySimpa false
namespace Go.Proofs.YtmnnffenijjpcaaGreatDoor
open Go Go.Sv Go.RowKit

theorem tpm_add {is stops : Nm → Bool} {s : List Nm} (h : tpm is stops s = none) : ∀ t : List Nm, (∀ y ∈ t, is y = false) → tpm is stops (s ++ t) = none := by
  refine snoc_ind ?_ ?_
  · intro _; simpa using h
  · intro t x ih hx
    rw [← List.append_assoc, tpm_snoc]
    split
    · rfl
    · rw [if_neg (by simp [hx x (by simp)])]
      exact ih fun y hy => hx y (by simp [hy])
theorem cut_none {is stops : Nm → Bool} {s : List Nm} (hr : rightR s = true) (hst : ∀ t x, Still t x → is x = true → tpm is stops t = none) : tpm is stops (cutW s (tpm is stops s)) = none := by
  cases h : tpm is stops s with
  | none => exact h
  | some i =>
    obtain ⟨x, t, h1, h2, h3, _⟩ := tpm_some h
    rw [h1] at hr
    exact hst _ x (right_at hr).2.2.2 h3
theorem cut_keep {is is' stops : Nm → Bool} {s : List Nm} (hn : tpm is' stops s = none) : tpm is' stops (cutW s (tpm is stops s)) = none := by
  cases h : tpm is stops s with
  | none => exact hn
  | some i =>
    obtain ⟨x, t, h1, h2, h3, h4, h5⟩ := tpm_some h
    rw [h1] at hn
    refine tpm_down _ (x :: t) hn fun y hy => ?_
    rcases List.mem_cons.1 hy with rfl | hy
    · exact h4
    · exact (h5 y hy).1
theorem take_take' (s : List Nm) (i j : Nat) : ∃ k, (s.take i).take j = s.take k := ⟨min j i, by rw [List.take_take]⟩
theorem ask0_pre (s : List Nm) : ∃ i, ask0 s = s.take i := by
  unfold ask0; split
  · exact ⟨s.length - 1, by rw [List.dropLast_eq_take]⟩
  · exact ⟨s.length, by simp⟩
theorem cutW_pre2 {s u : List Nm} (h : ∃ i, u = s.take i) (o : Option Nat) : ∃ i, cutW u o = s.take i := by
  obtain ⟨i, rfl⟩ := h
  obtain ⟨j, hj⟩ := cutW_pre (s.take i) o
  rw [hj]
  exact take_take' s i j
/-- the stack ahead of the last step -/
def askS (s : List Nm) (name : Nm) : List Nm := ask3 name (ask2 name (ask1 name (ask0 s)))
theorem ask_eq (s : List Nm) (name : Nm) : askR s name = askE name (askS s name) := rfl
theorem askS_pre (s : List Nm) (name : Nm) : ∃ i, askS s name = s.take i := by
  unfold askS ask3 ask2 ask1
  have h0 := ask0_pre s
  have h1 : ∃ i, (if name = nA then cutW (ask0 s) (tpm (isNm nA) isCell (ask0 s)) else ask0 s) = s.take i := by
    split
    · exact cutW_pre2 h0 _
    · exact h0
  generalize (if name = nA then cutW (ask0 s) (tpm (isNm nA) isCell (ask0 s)) else ask0 s) = u1 at *
  have h2 : ∃ i, (if isHead name = true then cutW u1 (tpm isHead isWall u1) else u1) = s.take i := by
    split
    · exact cutW_pre2 h1 _
    · exact h1
  generalize (if isHead name = true then cutW u1 (tpm isHead isWall u1) else u1) = u2 at *
  split
  · exact cutW_pre2 h2 _
  · exact h2
theorem pre_top {s : List Nm} (hr : rightR s = true) {i : Nat} (h : i < s.length) : topR (s.take i) ≠ nTextarea := by
  have e : s = s.take i ++ s[i] :: s.drop (i + 1) := by rw [← List.drop_eq_getElem_cons h, List.take_append_drop]
  rw [e] at hr
  exact (right_at hr).2.2.2.area
theorem pre_area {s : List Nm} (hr : rightR s = true) (hs : topR s ≠ nTextarea) (i : Nat) : topR (s.take i) ≠ nTextarea := by
  rcases Nat.lt_or_ge i s.length with h | h
  · exact pre_top hr h
  · rw [List.take_of_length_le h]; exact hs
theorem askS_area {s : List Nm} (hr : rightR s = true) (name : Nm) : topR (askS s name) ≠ nTextarea := by
  obtain ⟨i, hi⟩ := askS_pre s name
  rcases Nat.lt_or_ge i s.length with h | h
  · rw [hi]; exact pre_top hr h
  · intro ht
    rw [hi, List.take_of_length_le h] at ht
    have hne : s ≠ [] := by rintro rfl; revert ht; decide
    have e : ask0 s = s.dropLast := by unfold ask0; rw [if_pos ht]
    have h1 := drop_same hne
    have l1 := ask1_le name (ask0 s)
    have l2 := ask2_le name (ask1 name (ask0 s))
    have l3 := ask3_le name (ask2 name (ask1 name (ask0 s)))
    have hl : (askS s name).length = s.length := by rw [hi, List.take_of_length_le h]
    unfold askS at hl
    rw [e] at l1 l2 l3 hl
    omega
theorem askS_a {s : List Nm} (hr : rightR s = true) : tpm (isNm nA) isCell (askS s nA) = none := by
  obtain ⟨i, hi⟩ := ask0_pre s
  have h0 : rightR (ask0 s) = true := by rw [hi]; exact right_take hr i
  have e : askS s nA = cutW (ask0 s) (tpm (isNm nA) isCell (ask0 s)) := by
    unfold askS ask3 ask2 ask1
    rw [if_neg (by rw [const_facts.2.2.2.2.2.2.2.2.2.1]; simp), if_neg (by rw [const_facts.2.2.2.2.2.2.2.2.2.2.1]; simp), if_pos rfl]
  rw [e]
  exact cut_none h0 fun t x hs hx => hs.a (by simpa [isNm] using hx)
theorem ask1_not {name : Nm} (h : name ≠ nA) (s : List Nm) : ask1 name s = s := by unfold ask1; rw [if_neg h]
theorem ask2_pre (s : List Nm) (name : Nm) : ∃ i, ask2 name (ask1 name (ask0 s)) = s.take i := by
  unfold ask2 ask1
  have h0 := ask0_pre s
  have h1 : ∃ i, (if name = nA then cutW (ask0 s) (tpm (isNm nA) isCell (ask0 s)) else ask0 s) = s.take i := by
    split
    · exact cutW_pre2 h0 _
    · exact h0
  generalize (if name = nA then cutW (ask0 s) (tpm (isNm nA) isCell (ask0 s)) else ask0 s) = u1 at *
  split
  · exact cutW_pre2 h1 _
  · exact h1
theorem askS_blk {s : List Nm} (hr : rightR s = true) {name : Nm} (hb : isBlk name = true) : tpm (isNm nP) isWall (askS s name) = none := by
  obtain ⟨i, hi⟩ := ask2_pre s name
  have h0 : rightR (ask2 name (ask1 name (ask0 s))) = true := by rw [hi]; exact right_take hr i
  unfold askS ask3
  rw [if_pos hb]
  refine cut_none h0 fun t x hs hx => hs.blk ?_
  have : x = nP := by simpa [isNm] using hx
  rw [this]
  exact const_facts.2.2.2.2.2.2.2.2.1
theorem askS_head {s : List Nm} (hr : rightR s = true) {name : Nm} (hh : isHead name = true) : tpm isHead isWall (askS s name) = none := by
  obtain ⟨hb, _, _, _, _, ha, _, _⟩ := head_facts hh
  obtain ⟨i, hi⟩ := ask0_pre s
  have h0 : rightR (ask0 s) = true := by rw [hi]; exact right_take hr i
  unfold askS
  rw [ask1_not ha]
  unfold ask3 ask2
  rw [if_pos hb, if_pos hh]
  exact cut_keep (cut_none h0 fun t x hs hx => hs.head hx)
theorem ask_pre (s : List Nm) (name : Nm) : ∃ i, (askR s name).1 = s.take i := by
  obtain ⟨i, hi⟩ := askS_pre s name
  rw [ask_eq, hi]
  have hin : ∀ u, (∃ j, u = s.take j) → ∃ j, innerS u = s.take j := by
    rintro u ⟨j, rfl⟩
    unfold innerS
    split
    · rw [List.dropLast_eq_take]; exact take_take' s j _
    · exact ⟨j, rfl⟩
  unfold askE
  split
  · unfold ownR
    split
    · exact take_take' s i _
    · exact hin _ (cutW_pre2 ⟨i, rfl⟩ _)
  split
  · unfold itemR
    split
    · exact take_take' s i _
    · exact hin _ ⟨i, rfl⟩
  split
  · unfold itemR
    split
    · exact take_take' s i _
    · exact hin _ ⟨i, rfl⟩
  · exact hin _ ⟨i, rfl⟩
/-! ## the last steps -/
theorem put_fact {y : Nm} (h : y ∈ puts) : isAllow y = true ∧ isVoid y = false ∧ isHead y = false ∧ y ≠ nA ∧ y ≠ nP ∧ y ≠ nTextarea := by
  have := List.all_eq_true.1 put_facts y h
  simp only [Bool.and_eq_true, Bool.not_eq_true', decide_eq_false_iff_not] at this
  exact ⟨this.1.1.1.1.1, this.1.1.1.1.2, this.1.1.1.2, this.1.1.2, this.1.2, this.2⟩
/-- a part put on the one it stands in -/
theorem part_step {u : List Nm} {x y : Nm} (hr : rightR (u ++ [x]) = true) (hx : x ≠ nTextarea) (hp : isPart y = true) (hy : y ∈ puts) (h1 : stands y x = true) (h2 : partPut y x = []) : rightR (u ++ [x] ++ [y]) = true := by
  obtain ⟨g1, g2, g3⟩ := part_facts hp
  obtain ⟨k1, k2, _⟩ := put_fact hy
  exact right_iff.2 ⟨hr, k1, k2, ⟨by rw [topR_snoc]; exact hx, fun h => absurd h g3, (fun h => by rw [g2] at h; cases h), (fun h => by rw [g1] at h; cases h), part_still hp h1 h2⟩⟩
theorem part_end {u : List Nm} {x y : Nm} (hx : x ≠ nTextarea) (hp : isPart y = true) (h1 : stands y x = true) (h2 : partPut y x = []) : Still (u ++ [x]) y := by
  obtain ⟨g1, g2, g3⟩ := part_facts hp
  exact ⟨by rw [topR_snoc]; exact hx, fun h => absurd h g3, (fun h => by rw [g2] at h; cases h), (fun h => by rw [g1] at h; cases h), part_still hp h1 h2⟩
theorem group_ne {x : Nm} (h : isGroup x = true) : x ≠ nTextarea ∧ x ≠ nTr ∧ x ≠ nTable ∧ x ≠ nColgroup := by
  simp only [isGroup, Bool.or_eq_true, decide_eq_true_eq] at h
  rcases h with (rfl | rfl) | rfl <;> decide
/-- what a part puts in where it may stand -/
theorem part_put {name : Nm} (hp : isPart name = true) {u : List Nm} {x : Nm} (hr : rightR (u ++ [x]) = true) (hs : stands name x = true) :
    rightR (u ++ [x] ++ partPut name x) = true ∧ Still (u ++ [x] ++ partPut name x) name := by
  have hbT : nTbody ∈ puts := by decide
  have hbR : nTr ∈ puts := by decide
  by_cases h1 : name = nTd ∨ name = nTh
  · have hsx := hs
    unfold stands at hsx
    rw [if_pos h1] at hsx
    simp only [Bool.or_eq_true, decide_eq_true_eq] at hsx
    have std : ∀ y, y = nTr → stands name y = true ∧ partPut name y = [] := by
      rintro y rfl
      unfold stands partPut
      rw [if_pos h1, if_pos h1]; exact ⟨rfl, rfl⟩
    rcases hsx with (rfl | hg) | rfl
    · have e : partPut name nTr = [] := (std _ rfl).2
      rw [e, List.append_nil]
      exact ⟨hr, part_end (by decide) hp (std _ rfl).1 e⟩
    · obtain ⟨n1, n2, n3, _⟩ := group_ne hg
      have e : partPut name x = [nTr] := by unfold partPut; rw [if_pos h1, if_neg n2, if_neg n3]
      rw [e]
      have s1 : stands nTr x = true := by unfold stands; rw [if_neg (by decide), if_neg (by decide), if_pos rfl, hg]; rfl
      have s2 : partPut nTr x = [] := by unfold partPut; rw [if_neg (by decide), if_neg (by decide), if_pos rfl, if_neg n3]
      exact ⟨part_step hr n1 (by decide) hbR s1 s2, part_end (by decide) hp (std _ rfl).1 (std _ rfl).2⟩
    · have e : partPut name nTable = [nTbody, nTr] := by unfold partPut; rw [if_pos h1]; decide
      rw [e]
      have r1 := part_step hr (by decide) (y := nTbody) (by decide) hbT (by decide) (by decide)
      have r2 := part_step r1 (by decide) (y := nTr) (by decide) hbR (by decide) (by decide)
      rw [show u ++ [nTable] ++ [nTbody, nTr] = u ++ [nTable] ++ [nTbody] ++ [nTr] by simp]
      exact ⟨r2, part_end (by decide) hp (std _ rfl).1 (std _ rfl).2⟩
  by_cases h2 : name = nCol
  · subst h2
    have hsx := hs
    unfold stands at hsx
    rw [if_neg (by decide), if_pos rfl] at hsx
    simp only [Bool.or_eq_true, decide_eq_true_eq] at hsx
    rcases hsx with rfl | rfl
    · rw [show partPut nCol nColgroup = [] by decide, List.append_nil]
      exact ⟨hr, part_end (by decide) hp (by decide) (by decide)⟩
    · rw [show partPut nCol nTable = [nColgroup] by decide]
      exact ⟨part_step hr (by decide) (by decide) (by decide) (by decide) (by decide), part_end (by decide) hp (by decide) (by decide)⟩
  by_cases h3 : name = nTr
  · subst h3
    have hsx := hs
    unfold stands at hsx
    rw [if_neg (by decide), if_neg (by decide), if_pos rfl] at hsx
    simp only [Bool.or_eq_true, decide_eq_true_eq] at hsx
    rcases hsx with hg | rfl
    · obtain ⟨n1, n2, n3, _⟩ := group_ne hg
      have e : partPut nTr x = [] := by unfold partPut; rw [if_neg (by decide), if_neg (by decide), if_pos rfl, if_neg n3]
      rw [e, List.append_nil]
      exact ⟨hr, part_end n1 hp hs e⟩
    · rw [show partPut nTr nTable = [nTbody] by decide]
      exact ⟨part_step hr (by decide) (by decide) hbT (by decide) (by decide), part_end (by decide) hp (by decide) (by decide)⟩
  · have hsx := hs
    unfold stands at hsx
    rw [if_neg h1, if_neg h2, if_neg h3, decide_eq_true_eq] at hsx
    subst hsx
    have e : partPut name nTable = [] := by unfold partPut; rw [if_neg h1, if_neg h2, if_neg h3]
    rw [e, List.append_nil]
    exact ⟨hr, part_end (by decide) hp hs e⟩
theorem stands_table {name : Nm} (hp : isPart name = true) : stands name nTable = true := by
  simp only [isPart, isGroup, Bool.or_eq_true, decide_eq_true_eq] at hp
  rcases hp with ((((((rfl | rfl) | ((rfl | rfl) | rfl)) | rfl) | rfl) | rfl) | rfl) <;> decide
theorem innerP_puts {y n : Nm} (h : y ∈ innerP n) : y ∈ puts := by
  unfold innerP at h
  revert h
  split
  · intro h; revert y; decide
  split
  · intro h; revert y; decide
  split
  · intro h; revert y; decide
  split
  · intro h; revert y; decide
  split
  · intro h; revert y; decide
  · intro h; cases h
theorem innerS_none {is stops : Nm → Bool} {u : List Nm} (h : tpm is stops u = none) (hc : stops nColgroup = false) : tpm is stops (innerS u) = none := by
  unfold innerS
  split
  · rename_i ht
    have hne : u ≠ [] := by rintro rfl; revert ht; decide
    have e := top_last hne
    rw [ht] at e
    rw [e] at h
    exact tpm_down _ [nColgroup] h (by simp [hc])
  · exact h
theorem inner_none {is stops : Nm → Bool} {u : List Nm} (h : tpm is stops u = none) (hc : stops nColgroup = false) (hp : ∀ y ∈ puts, is y = false) (n : Nm) : tpm is stops (innerS u ++ innerP n) = none :=
  tpm_add (innerS_none h hc) _ fun y hy => hp y (innerP_puts hy)
/-- what is put in by the top -/
theorem inner_right {u : List Nm} (hr : rightR u = true) (ht : topR u ≠ nTextarea) :
    rightR (innerS u ++ innerP (topR (innerS u))) = true ∧ topR (innerS u ++ innerP (topR (innerS u))) ≠ nTextarea ∧ topR (innerS u ++ innerP (topR (innerS u))) ≠ nColgroup ∧ innerP (topR (innerS u ++ innerP (topR (innerS u)))) = [] := by
  obtain ⟨v, hv⟩ : ∃ v, v = innerS u := ⟨_, rfl⟩
  rw [← hv]
  have hvr : rightR v = true ∧ topR v ≠ nTextarea ∧ topR v ≠ nColgroup := by
    rw [hv]
    unfold innerS
    split
    · rename_i hc
      have hne : u ≠ [] := by rintro rfl; revert hc; decide
      have e := top_last hne
      rw [hc] at e
      rw [e] at hr
      obtain ⟨h1, _, _, hs⟩ := right_iff.1 hr
      obtain ⟨t, y, h2, h3, h4⟩ := still_part (x := nColgroup) (by decide) hs.last
      have hy : y = nTable := by
        unfold stands at h3
        rw [if_neg (by decide), if_neg (by decide), if_neg (by decide), decide_eq_true_eq] at h3
        exact h3
      refine ⟨h1, hs.area, ?_⟩
      rw [h2, topR_snoc, hy]; decide
    · rename_i hc
      exact ⟨hr, ht, hc⟩
  clear hv hr ht
  obtain ⟨hr, ht, hc⟩ := hvr
  by_cases hne : v = []
  · subst hne
    exact ⟨by decide, by decide, by decide, by decide⟩
  have e := top_last hne
  obtain ⟨w, hw⟩ : ∃ w, w = v.dropLast := ⟨_, rfl⟩
  obtain ⟨x, hx⟩ : ∃ x, x = topR v := ⟨_, rfl⟩
  rw [← hw, ← hx] at e
  rw [← hx] at ht hc ⊢
  subst e
  clear hw hx hne
  unfold innerP
  by_cases h1 : x = nTable
  · subst h1
    rw [if_pos rfl]
    have r1 := part_step hr (by decide) (y := nTbody) (by decide) (by decide) (by decide) (by decide)
    have r2 := part_step r1 (by decide) (y := nTr) (by decide) (by decide) (by decide) (by decide)
    have r3 := part_step r2 (by decide) (y := nTd) (by decide) (by decide) (by decide) (by decide)
    rw [show w ++ [nTable] ++ [nTbody, nTr, nTd] = w ++ [nTable] ++ [nTbody] ++ [nTr] ++ [nTd] by simp]
    rw [topR_snoc]
    exact ⟨r3, by decide, by decide, by decide⟩
  rw [if_neg h1]
  by_cases h2 : isGroup x = true
  · rw [if_pos h2]
    obtain ⟨n1, n2, n3, _⟩ := group_ne h2
    have s1 : stands nTr x = true := by unfold stands; rw [if_neg (by decide), if_neg (by decide), if_pos rfl, h2]; rfl
    have s2 : partPut nTr x = [] := by unfold partPut; rw [if_neg (by decide), if_neg (by decide), if_pos rfl, if_neg n3]
    have r2 := part_step hr n1 (y := nTr) (by decide) (by decide) s1 s2
    have r3 := part_step r2 (by decide) (y := nTd) (by decide) (by decide) (by decide) (by decide)
    rw [show w ++ [x] ++ [nTr, nTd] = w ++ [x] ++ [nTr] ++ [nTd] by simp]
    rw [topR_snoc]
    exact ⟨r3, by decide, by decide, by decide⟩
  rw [if_neg h2]
  by_cases h3 : x = nTr
  · subst h3
    rw [if_pos rfl]
    have r3 := part_step hr (by decide) (y := nTd) (by decide) (by decide) (by decide) (by decide)
    rw [topR_snoc]
    exact ⟨r3, by decide, by decide, by decide⟩
  rw [if_neg h3]
  have hblk : isBlk x = true → isWall x = false → x ≠ nP → tpm (isNm nP) isWall (w ++ [x]) = none := by
    intro hb hw hp
    rw [tpm_snoc, if_neg (by simp [hw]), if_neg (by simp [isNm, hp])]
    exact (right_iff.1 hr).2.2.2.blk hb
  by_cases h4 : isLst x = true
  · rw [if_pos h4, topR_snoc]
    have hx : isBlk x = true ∧ isWall x = false ∧ x ≠ nP := by
      simp only [isLst, Bool.or_eq_true, decide_eq_true_eq] at h4
      rcases h4 with (rfl | rfl) | rfl <;> decide +kernel
    refine ⟨right_iff.2 ⟨hr, by decide +kernel, by decide +kernel, ?_⟩, by decide, by decide, by decide⟩
    refine ⟨by rw [topR_snoc]; exact ht, (fun h => absurd h (by decide)), (fun h => by rw [const_facts.2.2.2.2.2.2.2.2.2.2.2.1] at h; cases h), fun _ => hblk hx.1 hx.2.1 hx.2.2, ?_⟩
    rw [askE_li]
    exact item_still h4 hx.2.1
  rw [if_neg h4]
  by_cases h5 : x = nDl
  · subst h5
    rw [if_pos rfl, topR_snoc]
    refine ⟨right_iff.2 ⟨hr, by decide +kernel, by decide +kernel, ?_⟩, by decide, by decide, by decide⟩
    refine ⟨by rw [topR_snoc]; exact ht, (fun h => absurd h (by decide)), (fun h => absurd h (by decide +kernel)), fun _ => hblk (by decide +kernel) (by decide) (by decide), ?_⟩
    rw [askE_d (.inr rfl)]
    exact item_still (by decide) (by decide)
  · rw [if_neg h5, List.append_nil, topR_snoc]
    refine ⟨hr, ht, hc, ?_⟩
    rw [if_neg h1, if_neg h2, if_neg h3, if_neg h4, if_neg h5]
theorem around_put {around : Nm} (ha : around = nUl ∨ around = nDl) {v : List Nm} (hv : rightR v = true) (h1 : topR v ≠ nTextarea) (h2 : topR v ≠ nColgroup) (h3 : innerP (topR v) = []) (h4 : tpm (isNm nP) isWall v = none) : rightR (v ++ [around]) = true := by
  have hf : isAllow around = true ∧ isVoid around = false ∧ around ≠ nA ∧ isHead around = false ∧ isPart around = false ∧ around ≠ nLi ∧ around ≠ nDt ∧ around ≠ nDd := by
    rcases ha with rfl | rfl <;> decide +kernel
  refine right_iff.2 ⟨hv, hf.1, hf.2.1, ⟨h1, fun h => absurd h hf.2.2.1, (fun h => by rw [hf.2.2.2.1] at h; cases h), fun _ => h4, ?_⟩⟩
  rw [askE_other hf.2.2.2.2.1 hf.2.2.2.2.2.1 hf.2.2.2.2.2.2.1 hf.2.2.2.2.2.2.2]
  exact inner_still h2 h3
/-- li, dt, dd -/
theorem item_right {name around : Nm} {is : Nm → Bool} (hn : name = nLi ∧ around = nUl ∧ is = isLst ∨ (name = nDt ∨ name = nDd) ∧ around = nDl ∧ is = isNm nDl) {u : List Nm} (hr : rightR u = true) (ht : topR u ≠ nTextarea) (hb : tpm (isNm nP) isWall u = none) :
    rightR ((itemR is around u).1 ++ (itemR is around u).2) = true ∧ Still ((itemR is around u).1 ++ (itemR is around u).2) name := by
  have hf : name ≠ nA ∧ isHead name = false ∧ (∀ s, askE name s = itemR is around s) ∧ is around = true ∧ isWall around = false ∧ around ≠ nTextarea ∧ around ≠ nP ∧ ∀ x, is x = true → x ≠ nTextarea := by
    rcases hn with ⟨rfl, rfl, rfl⟩ | ⟨h, rfl, rfl⟩
    · refine ⟨by decide, by decide +kernel, askE_li, by decide, by decide, by decide, by decide, fun x hx => ?_⟩
      simp only [isLst, Bool.or_eq_true, decide_eq_true_eq] at hx
      rcases hx with (rfl | rfl) | rfl <;> decide
    · refine ⟨by rcases h with rfl | rfl <;> decide, by rcases h with rfl | rfl <;> decide +kernel, askE_d h, by decide, by decide, by decide, by decide, fun x hx => ?_⟩
      have : x = nDl := by simpa [isNm] using hx
      subst this; decide
  obtain ⟨f1, f2, f3, f4, f5, f6, f7, f8⟩ := hf
  have mk : ∀ v, topR v ≠ nTextarea → tpm (isNm nP) isWall v = none → itemR is around v = (v, []) → Still v name := fun v h1 h2 h3 =>
    ⟨h1, fun h => absurd h f1, fun h => (by rw [f2] at h; cases h), fun _ => h2, by rw [f3]; exact h3⟩
  cases h : tpm is isWall u with
  | some i =>
    obtain ⟨x, t, h1, h2, h3, h4, h5⟩ := tpm_some h
    have e : itemR is around u = (u.take i ++ [x], []) := by
      unfold itemR
      rw [h]
      dsimp only
      congr 1
      conv => lhs; rw [h1]
      rw [List.take_append, List.length_take, show i + 1 - min i u.length = 1 by omega, List.take_of_length_le (by rw [List.length_take]; omega)]
      rfl
    rw [e, List.append_nil]
    rw [h1] at hr hb
    have hb2 : tpm (isNm nP) isWall (u.take i ++ [x]) = none := tpm_down _ t (by simpa using hb) fun y hy => (h5 y hy).1
    have hr2 : rightR (u.take i ++ [x]) = true := right_pre _ t (by simpa using hr)
    exact ⟨hr2, mk _ (by rw [topR_snoc]; exact f8 x h3) hb2 (item_still h3 h4)⟩
  | none =>
    have e : itemR is around u = (innerS u, innerP (topR (innerS u)) ++ [around]) := by unfold itemR; rw [h]
    rw [e]
    obtain ⟨k1, k2, k3, k4⟩ := inner_right hr ht
    have k5 := inner_none hb (by decide) (fun y hy => by have := (put_fact hy).2.2.2.2.1; simp [isNm, this]) (topR (innerS u))
    dsimp only
    rw [← List.append_assoc]
    generalize innerS u ++ innerP (topR (innerS u)) = v at *
    refine ⟨around_put (by rcases hn with ⟨_, h, _⟩ | ⟨_, h, _⟩; exact .inl h; exact .inr h) k1 k2 k3 k4 k5, mk _ (by rw [topR_snoc]; exact f6) ?_ (item_still f4 f5)⟩
    exact tpm_add k5 [around] (by simp [isNm, f7])
/-- the parts of a table -/
theorem own_right {name : Nm} (hp : isPart name = true) {u : List Nm} (hr : rightR u = true) (ht : topR u ≠ nTextarea) : rightR ((ownR name u).1 ++ (ownR name u).2) = true ∧ Still ((ownR name u).1 ++ (ownR name u).2) name := by
  cases h : tpm (stands name) noNm u with
  | some i =>
    obtain ⟨x, t, h1, h2, h3, h4, h5⟩ := tpm_some h
    have hg : u.getD i [] = x := by
      conv => lhs; rw [h1]
      rw [List.getD_eq_getElem?_getD, List.getElem?_append_right (by rw [List.length_take]; omega), List.length_take, show i - min i u.length = 0 by omega]
      rfl
    have e : ownR name u = (u.take i ++ [x], partPut name x) := by
      unfold ownR
      rw [h]
      dsimp only
      rw [hg]
      congr 1
      conv => lhs; rw [h1]
      rw [List.take_append, List.length_take, show i + 1 - min i u.length = 1 by omega, List.take_of_length_le (by rw [List.length_take]; omega)]
      rfl
    rw [e]
    rw [h1] at hr
    exact part_put hp (right_pre _ t (by simpa using hr)) h3
  | none =>
    obtain ⟨u2, hu2⟩ : ∃ u2, u2 = cutW u (tpm (isNm nP) isWall u) := ⟨_, rfl⟩
    have e : ownR name u = (innerS u2, innerP (topR (innerS u2)) ++ [nTable] ++ partPut name nTable) := by unfold ownR; rw [h, hu2]
    rw [e]
    obtain ⟨i, hi⟩ := cutW_pre u (tpm (isNm nP) isWall u)
    have hr2 : rightR u2 = true := by rw [hu2, hi]; exact right_take hr i
    have ht2 : topR u2 ≠ nTextarea := by rw [hu2, hi]; exact pre_area hr ht i
    have hb2 : tpm (isNm nP) isWall u2 = none := by
      rw [hu2]
      refine cut_none hr fun t x hs hx => hs.blk ?_
      have : x = nP := by simpa [isNm] using hx
      rw [this]; exact const_facts.2.2.2.2.2.2.2.2.1
    clear hu2 e h
    obtain ⟨k1, k2, k3, k4⟩ := inner_right hr2 ht2
    have k5 := inner_none hb2 (by decide) (fun y hy => by have := (put_fact hy).2.2.2.2.1; simp [isNm, this]) (topR (innerS u2))
    dsimp only
    rw [← List.append_assoc, ← List.append_assoc]
    generalize innerS u2 ++ innerP (topR (innerS u2)) = v at *
    refine part_put hp ?_ (stands_table hp)
    refine right_iff.2 ⟨k1, by decide +kernel, by decide +kernel, ⟨k2, (fun h => absurd h (by decide)), (fun h => absurd h (by decide +kernel)), fun _ => k5, ?_⟩⟩
    rw [askE_other (by decide) (by decide) (by decide) (by decide)]
    exact inner_still k3 k4
/-- behind what a name asks: the stack is right, and the name asks nothing more -/
theorem ask_right {s : List Nm} (hr : rightR s = true) (name : Nm) : rightR ((askR s name).1 ++ (askR s name).2) = true ∧ Still ((askR s name).1 ++ (askR s name).2) name := by
  rw [ask_eq]
  obtain ⟨i, hi⟩ := askS_pre s name
  have hr3 : rightR (askS s name) = true := by rw [hi]; exact right_take hr i
  have ht3 := askS_area hr name
  have hb3 := fun hb => askS_blk hr (name := name) hb
  have hh3 := fun hh => askS_head hr (name := name) hh
  have ha3 : name = nA → tpm (isNm nA) isCell (askS s name) = none := by rintro rfl; exact askS_a hr
  generalize askS s name = u at *
  clear hi hr
  by_cases h1 : isPart name = true
  · rw [askE_part h1]; exact own_right h1 hr3 ht3
  by_cases h2 : name = nLi
  · subst h2
    rw [askE_li]; exact item_right (.inl ⟨rfl, rfl, rfl⟩) hr3 ht3 (hb3 const_facts.1)
  by_cases h3 : name = nDt ∨ name = nDd
  · rw [askE_d h3]
    exact item_right (.inr ⟨h3, rfl, rfl⟩) hr3 ht3 (hb3 (by rcases h3 with rfl | rfl <;> decide +kernel))
  · have hp : isPart name = false := by simpa using h1
    have hd1 : name ≠ nDt := fun h => h3 (.inl h)
    have hd2 : name ≠ nDd := fun h => h3 (.inr h)
    rw [askE_other hp h2 hd1 hd2]
    obtain ⟨k1, k2, k3, k4⟩ := inner_right hr3 ht3
    refine ⟨k1, ⟨k2, fun h => ?_, fun h => ?_, fun h => ?_, ?_⟩⟩
    · exact inner_none (ha3 h) (by decide) (fun y hy => by have := (put_fact hy).2.2.2.1; simp [isNm, this]) _
    · exact inner_none (hh3 h) (by decide) (fun y hy => (put_fact hy).2.2.1) _
    · exact inner_none (hb3 h) (by decide) (fun y hy => by have := (put_fact hy).2.2.2.2.1; simp [isNm, this]) _
    · rw [askE_other hp h2 hd1 hd2]
      exact inner_still k3 k4
end Go.Proofs.YtmnnffenijjpcaaGreatDoor

/-
  Loops over functions, with memory in pieces.
-/
set_option linter.unusedSimpArgs false
set_option linter.unusedVariables false
set_option linter.unnecessarySimpa false
namespace Go.Sv
open Go Go.RowKit
def pLoop (l : Nat) (r : Loop) : Plot where
  foot := [l]
  ok w := LoopAt w l r
  view := (none, [])
  loc _ _ h hb := (hb l (by simp)).trans h
  lt _ h x hx := by rw [List.mem_singleton.1 hx]; exact h.lt
  sg _ _ := .inl rfl
def pDef (D : Nat) : Plot where
  foot := [D]
  ok w := NoDef w D
  view := (none, [])
  loc _ _ h hb := (hb D (by simp)).trans h
  lt _ h x hx := by rw [List.mem_singleton.1 hx]; exact h.lt
  sg _ _ := .inl rfl
section
variable {w0 w w' : World} {cs : List Plot} {l D i : Nat} {r r' : Loop}
theorem Sep.loop (h : Sep w0 w cs) (hf : Frm w w') (hL : LoopAt w' l r) (hN : NoDef w' D) (hl : w.heap.size ≤ l) (hD : w.heap.size ≤ D) (hne : l ≠ D) : Sep w0 w' (pLoop l r :: pDef D :: cs) := by
  refine h.seq (ds := [pLoop l r, pDef D]) ⟨hf, ?_, ?_, ?_⟩
  · intro c hc
    rcases List.mem_cons.1 hc with rfl | hc
    · exact hL
    · rw [List.mem_singleton.1 hc]; exact hN
  · intro c hc x hx
    rcases List.mem_cons.1 hc with rfl | hc
    · rw [List.mem_singleton.1 hx]; exact hl
    · rw [List.mem_singleton.1 hc] at hx; rw [List.mem_singleton.1 hx]; exact hD
  · rw [List.pairwise_cons]
    refine ⟨fun b hb x hx hx' => ?_, List.pairwise_singleton _ _⟩
    rw [List.mem_singleton.1 hb] at hx'
    rw [List.mem_singleton.1 hx] at hx'
    exact hne (List.mem_singleton.1 hx')
theorem Sep.loopAt (h : Sep w0 w cs) (i : Nat) (hi : cs[i]? = some (pLoop l r)) : LoopAt w l r := h.at (c := pLoop l r) i hi
theorem Sep.noDef (h : Sep w0 w cs) (i : Nat) (hi : cs[i]? = some (pDef D)) : NoDef w D := h.at (c := pDef D) i hi
theorem Sep.turnLoop (h : Sep w0 w cs) (i : Nat) (hi : cs[i]? = some (pLoop l r)) (hl : Le [l] w w') (hL : LoopAt w' l r') : Sep w0 w' (cs.set i (pLoop l r')) :=
  h.upd i hi (lm_own hl) hL
/-- a piece that is given away -/
theorem Sep.lose {c : Plot} (h : Sep w0 w (c :: cs)) (hl : Le c.foot w w') : Sep w0 w' cs := by
  have hp := h.apart
  rw [List.pairwise_cons] at hp
  exact h.tail.le hl (fun d hd x hx hm => hp.1 d hd x hm hx) (h.low _ List.mem_cons_self)
theorem Sep.undef (h : Sep w0 w (pDef D :: cs)) : Sep w0 (w.putObj D (.deferred none)) cs := h.lose (le_putObj w D _)
end
end Go.Sv

/-
  Packages event and sieveref18: which events may be.
-/
set_option linter.unusedSimpArgs false
set_option linter.unusedVariables false
set_option linter.unnecessarySimpa false
namespace Go.Sv
open Go Go.RowKit
section
variable {P : Program} {n : Nat} {ds : Ctx} {ops : Array Oper} {Q : Exit → Ctx → Env → World → Prop} {rest : List Oper} {σ : GE} {w : World} {d : Nat} {ty t : TypeId} {pos : String} {af : Array Edge} {zv : Value} {size bytes : Nat} {j dj : Nat} {want b c : Bool}
theorem bm2 {σ : Env} {x y : Operand} {v u : Value} {i k : Nat} (h : evl σ x = v) (h2 : evl σ y = u) : [(i, x), (k, y)].map (fun p => (p.1, evl σ p.2)) = [(i, v), (k, u)] := by simp [h, h2]
theorem bm3 {σ : Env} {x y z : Operand} {v u r : Value} {i k m : Nat} (h : evl σ x = v) (h2 : evl σ y = u) (h3 : evl σ z = r) : [(i, x), (k, y), (m, z)].map (fun p => (p.1, evl σ p.2)) = [(i, v), (k, u), (m, r)] := by simp [h, h2, h3]
end
end Go.Sv
namespace Go.Proofs.YtmnnffenijjpcaaGreatDoor
open Go Go.Sv Go.RowKit

/-- may an event be? -/
def evR (e : Ev) : Bool :=
  if e.kind = 0 then !decide (e.text = []) && validR e.text && decide (e.name = []) && decide (e.attrs.length = 0)
  else if e.kind = 1 then decide (e.text = []) && mayR e.start && !voidR e.name
  else if e.kind = 3 then decide (e.text = []) && mayR e.start && voidR e.name
  else if e.kind = 2 then decide (e.text = []) && decide (e.attrs.length = 0) && mayR e.close
  else false





































































































































































































end Go.Proofs.YtmnnffenijjpcaaGreatDoor

/-
  How events nest: the plain part; the stack of names.
-/
set_option linter.unusedSimpArgs false
set_option linter.unusedVariables false
set_option linter.unnecessarySimpa false
namespace Go.Sv
open Go Go.RowKit
/-- a cut behind a piece of code -/
theorem wcutt {P : Program} {n : Nat} {ds : Ctx} {K : Ctx → Env → World → Prop} {Q : Exit → Ctx → Env → World → Prop} {σ : Env} {w : World} {a : Code} {X : Type} (sl : X → List (Nat × Value)) (I : X → World → Prop)
    (ha : WC P n ds a (thl ds (fun σ w => ∃ x, Has σ (sl x) ∧ I x w) Q) σ w) (hb : ∀ x w (ρ : GE), I x w → K ds (real (updGL ρ (sl x))) w) : WC P n ds a (thn K Q) σ w := by
  refine WC_mono ha ?_
  intro e c' σ' w' h
  unfold thl at h
  unfold thn
  cases e <;> try exact h
  obtain ⟨rfl, x, h1, h2⟩ := h
  have := hb x w' (lif σ') h2
  rw [← real_updL, updL_has h1] at this
  exact this
/-- two worlds that agree on the first B blocks -/
structure Same (B : Nat) (w w' : World) : Prop where
  os : w'.os = w.os
  tape : w'.tape = w.tape
  output : w'.output = w.output
  size : B ≤ w'.heap.size
  block : ∀ k, k < B → w'.heap[k]? = w.heap[k]?
theorem Same.frm {w w1 w2 : World} (h : Frm w w1) (h' : Same w.heap.size w1 w2) : Frm w w2 := ⟨h'.os.trans h.os, h'.tape.trans h.tape, h'.output.trans h.output, h'.size, fun k hk => (h'.block k hk).trans (h.block k hk)⟩
theorem Own.same {B : Nat} {w w' : World} {b : Nat} {l : List Value} (h : Own w b l) (hs : Same B w w') (hb : b < B) : Own w' b l := h.of_block (hs.block b hb)
end Go.Sv
namespace Go.Proofs.YtmnnffenijjpcaaGreatDoor
open Go Go.Sv Go.RowKit

/-! ## The plain part -/
structure Lk where
  stack : List (List UInt8)
  most : Nat
  at_ : Nat
  err : Int
  good : Nat
def lkStep (k : Lk) (e : Ev) : Lk :=
  if k.err = 0 then
    if evR e then
      if e.kind = 1 then ⟨k.stack ++ [e.name], max k.most (k.stack.length + 1), 0, 0, k.good + 1⟩
      else if e.kind = 3 then ⟨k.stack, max k.most (k.stack.length + 1), 0, 0, k.good + 1⟩
      else if e.kind = 2 then (if k.stack.getLast? = some e.name then ⟨k.stack.dropLast, k.most, 0, 0, k.good + 1⟩ else { k with at_ := k.good, err := 181 })
      else ⟨k.stack, k.most, 0, 0, k.good + 1⟩
    else { k with at_ := k.good, err := 180 }
  else k
def lk0 : Lk := ⟨[], 0, 0, 0, 0⟩
/-- how events nest -/
def lkR (l : List Ev) : Lk := l.foldl lkStep lk0
/-! ## A stack of names in memory -/
/-- a stack: where it lies, and its names -/
def pStk (b : Nat) (p : Option Addr) (c : Nat) (st : List (List UInt8)) : List Plot := [pOwn b [.slice p st.length c], pRow 1 p st.length c (strs st)]

































































end Go.Proofs.YtmnnffenijjpcaaGreatDoor

/- This seat's function types as instances (made by a program of ours). -/
namespace Go.Proofs.YtmnnffenijjpcaaGreatDoor
open Go Go.Sv
instance : Agg Tryz.prog 1 false := ⟨_, Tryz.underlying1, rfl⟩
instance : Inf Tryz.prog 1 (.nilFunc) 1 8 := ⟨by kernel_rfl⟩
instance : Agg Tryz.prog 27 false := ⟨_, Tryz.underlying27, rfl⟩
instance : Inf Tryz.prog 27 (.nilFunc) 1 8 := ⟨by kernel_rfl⟩
instance : Agg Tryz.prog 34 false := ⟨_, Tryz.underlying34, rfl⟩
instance : Inf Tryz.prog 34 (.nilFunc) 1 8 := ⟨by kernel_rfl⟩
instance : Agg Tryz.prog 35 false := ⟨_, Tryz.underlying35, rfl⟩
instance : Inf Tryz.prog 35 (.nilFunc) 1 8 := ⟨by kernel_rfl⟩
instance : Agg Tryz.prog 37 false := ⟨_, Tryz.underlying37, rfl⟩
instance : Inf Tryz.prog 37 (.nilFunc) 1 8 := ⟨by kernel_rfl⟩
instance : Agg Tryz.prog 38 false := ⟨_, Tryz.underlying38, rfl⟩
instance : Inf Tryz.prog 38 (.nilFunc) 1 8 := ⟨by kernel_rfl⟩
instance : Agg Tryz.prog 39 false := ⟨_, Tryz.underlying39, rfl⟩
instance : Inf Tryz.prog 39 (.nilFunc) 1 8 := ⟨by kernel_rfl⟩
instance : Agg Tryz.prog 40 false := ⟨_, Tryz.underlying40, rfl⟩
instance : Inf Tryz.prog 40 (.nilFunc) 1 8 := ⟨by kernel_rfl⟩
instance : Agg Tryz.prog 45 false := ⟨_, Tryz.underlying45, rfl⟩
instance : Inf Tryz.prog 45 (.nilFunc) 1 8 := ⟨by kernel_rfl⟩
instance : Agg Tryz.prog 46 false := ⟨_, Tryz.underlying46, rfl⟩
instance : Inf Tryz.prog 46 (.nilFunc) 1 8 := ⟨by kernel_rfl⟩
instance : Agg Tryz.prog 49 false := ⟨_, Tryz.underlying49, rfl⟩
instance : Inf Tryz.prog 49 (.nilFunc) 1 8 := ⟨by kernel_rfl⟩
instance : Agg Tryz.prog 53 false := ⟨_, Tryz.underlying53, rfl⟩
instance : Inf Tryz.prog 53 (.nilFunc) 1 8 := ⟨by kernel_rfl⟩
instance : Agg Tryz.prog 54 false := ⟨_, Tryz.underlying54, rfl⟩
instance : Inf Tryz.prog 54 (.nilFunc) 1 8 := ⟨by kernel_rfl⟩
instance : Agg Tryz.prog 55 false := ⟨_, Tryz.underlying55, rfl⟩
instance : Inf Tryz.prog 55 (.nilFunc) 1 8 := ⟨by kernel_rfl⟩
instance : Agg Tryz.prog 56 false := ⟨_, Tryz.underlying56, rfl⟩
instance : Inf Tryz.prog 56 (.nilFunc) 1 8 := ⟨by kernel_rfl⟩
instance : Agg Tryz.prog 60 false := ⟨_, Tryz.underlying60, rfl⟩
instance : Inf Tryz.prog 60 (.nilFunc) 1 8 := ⟨by kernel_rfl⟩
instance : Agg Tryz.prog 61 false := ⟨_, Tryz.underlying61, rfl⟩
instance : Inf Tryz.prog 61 (.nilFunc) 1 8 := ⟨by kernel_rfl⟩
instance : Agg Tryz.prog 62 false := ⟨_, Tryz.underlying62, rfl⟩
instance : Inf Tryz.prog 62 (.nilFunc) 1 8 := ⟨by kernel_rfl⟩
instance : Agg Tryz.prog 63 false := ⟨_, Tryz.underlying63, rfl⟩
instance : Inf Tryz.prog 63 (.nilFunc) 1 8 := ⟨by kernel_rfl⟩
instance : Agg Tryz.prog 64 false := ⟨_, Tryz.underlying64, rfl⟩
instance : Inf Tryz.prog 64 (.nilFunc) 1 8 := ⟨by kernel_rfl⟩
instance : Agg Tryz.prog 65 false := ⟨_, Tryz.underlying65, rfl⟩
instance : Inf Tryz.prog 65 (.nilFunc) 1 8 := ⟨by kernel_rfl⟩
instance : Agg Tryz.prog 69 false := ⟨_, Tryz.underlying69, rfl⟩
instance : Inf Tryz.prog 69 (.nilFunc) 1 8 := ⟨by kernel_rfl⟩
instance : Agg Tryz.prog 70 false := ⟨_, Tryz.underlying70, rfl⟩
instance : Inf Tryz.prog 70 (.nilFunc) 1 8 := ⟨by kernel_rfl⟩
instance : Agg Tryz.prog 73 false := ⟨_, Tryz.underlying73, rfl⟩
instance : Inf Tryz.prog 73 (.nilFunc) 1 8 := ⟨by kernel_rfl⟩
instance : Agg Tryz.prog 78 false := ⟨_, Tryz.underlying78, rfl⟩
instance : Inf Tryz.prog 78 (.nilFunc) 1 8 := ⟨by kernel_rfl⟩
instance : Agg Tryz.prog 79 false := ⟨_, Tryz.underlying79, rfl⟩
instance : Inf Tryz.prog 79 (.nilFunc) 1 8 := ⟨by kernel_rfl⟩
instance : Agg Tryz.prog 80 false := ⟨_, Tryz.underlying80, rfl⟩
instance : Inf Tryz.prog 80 (.nilFunc) 1 8 := ⟨by kernel_rfl⟩
instance : Agg Tryz.prog 81 false := ⟨_, Tryz.underlying81, rfl⟩
instance : Inf Tryz.prog 81 (.nilFunc) 1 8 := ⟨by kernel_rfl⟩
instance : Agg Tryz.prog 82 false := ⟨_, Tryz.underlying82, rfl⟩
instance : Inf Tryz.prog 82 (.nilFunc) 1 8 := ⟨by kernel_rfl⟩
instance : Agg Tryz.prog 83 false := ⟨_, Tryz.underlying83, rfl⟩
instance : Inf Tryz.prog 83 (.nilFunc) 1 8 := ⟨by kernel_rfl⟩
instance : Agg Tryz.prog 85 false := ⟨_, Tryz.underlying85, rfl⟩
instance : Inf Tryz.prog 85 (.nilFunc) 1 8 := ⟨by kernel_rfl⟩
instance : Agg Tryz.prog 86 false := ⟨_, Tryz.underlying86, rfl⟩
instance : Inf Tryz.prog 86 (.nilFunc) 1 8 := ⟨by kernel_rfl⟩
instance : Agg Tryz.prog 87 false := ⟨_, Tryz.underlying87, rfl⟩
instance : Inf Tryz.prog 87 (.nilFunc) 1 8 := ⟨by kernel_rfl⟩
instance : Agg Tryz.prog 88 false := ⟨_, Tryz.underlying88, rfl⟩
instance : Inf Tryz.prog 88 (.nilFunc) 1 8 := ⟨by kernel_rfl⟩
instance : Agg Tryz.prog 89 false := ⟨_, Tryz.underlying89, rfl⟩
instance : Inf Tryz.prog 89 (.nilFunc) 1 8 := ⟨by kernel_rfl⟩
instance : Agg Tryz.prog 90 false := ⟨_, Tryz.underlying90, rfl⟩
instance : Inf Tryz.prog 90 (.nilFunc) 1 8 := ⟨by kernel_rfl⟩
instance : Agg Tryz.prog 91 false := ⟨_, Tryz.underlying91, rfl⟩
instance : Inf Tryz.prog 91 (.nilFunc) 1 8 := ⟨by kernel_rfl⟩
instance : Agg Tryz.prog 92 false := ⟨_, Tryz.underlying92, rfl⟩
instance : Inf Tryz.prog 92 (.nilFunc) 1 8 := ⟨by kernel_rfl⟩
instance : Agg Tryz.prog 96 false := ⟨_, Tryz.underlying96, rfl⟩
instance : Inf Tryz.prog 96 (.nilFunc) 1 8 := ⟨by kernel_rfl⟩
instance : Agg Tryz.prog 97 false := ⟨_, Tryz.underlying97, rfl⟩
instance : Inf Tryz.prog 97 (.nilFunc) 1 8 := ⟨by kernel_rfl⟩
instance : Agg Tryz.prog 98 false := ⟨_, Tryz.underlying98, rfl⟩
instance : Inf Tryz.prog 98 (.nilFunc) 1 8 := ⟨by kernel_rfl⟩
instance : Agg Tryz.prog 99 false := ⟨_, Tryz.underlying99, rfl⟩
instance : Inf Tryz.prog 99 (.nilFunc) 1 8 := ⟨by kernel_rfl⟩
instance : Agg Tryz.prog 100 false := ⟨_, Tryz.underlying100, rfl⟩
instance : Inf Tryz.prog 100 (.nilFunc) 1 8 := ⟨by kernel_rfl⟩
instance : Agg Tryz.prog 101 false := ⟨_, Tryz.underlying101, rfl⟩
instance : Inf Tryz.prog 101 (.nilFunc) 1 8 := ⟨by kernel_rfl⟩
instance : Agg Tryz.prog 103 false := ⟨_, Tryz.underlying103, rfl⟩
instance : Inf Tryz.prog 103 (.nilFunc) 1 8 := ⟨by kernel_rfl⟩
instance : Agg Tryz.prog 104 false := ⟨_, Tryz.underlying104, rfl⟩
instance : Inf Tryz.prog 104 (.nilFunc) 1 8 := ⟨by kernel_rfl⟩
instance : Agg Tryz.prog 105 false := ⟨_, Tryz.underlying105, rfl⟩
instance : Inf Tryz.prog 105 (.nilFunc) 1 8 := ⟨by kernel_rfl⟩
instance : Agg Tryz.prog 106 false := ⟨_, Tryz.underlying106, rfl⟩
instance : Inf Tryz.prog 106 (.nilFunc) 1 8 := ⟨by kernel_rfl⟩
instance : Agg Tryz.prog 107 false := ⟨_, Tryz.underlying107, rfl⟩
instance : Inf Tryz.prog 107 (.nilFunc) 1 8 := ⟨by kernel_rfl⟩
instance : Agg Tryz.prog 108 false := ⟨_, Tryz.underlying108, rfl⟩
instance : Inf Tryz.prog 108 (.nilFunc) 1 8 := ⟨by kernel_rfl⟩
instance : Agg Tryz.prog 109 false := ⟨_, Tryz.underlying109, rfl⟩
instance : Inf Tryz.prog 109 (.nilFunc) 1 8 := ⟨by kernel_rfl⟩
instance : Agg Tryz.prog 113 false := ⟨_, Tryz.underlying113, rfl⟩
instance : Inf Tryz.prog 113 (.nilFunc) 1 8 := ⟨by kernel_rfl⟩
instance : Agg Tryz.prog 116 false := ⟨_, Tryz.underlying116, rfl⟩
instance : Inf Tryz.prog 116 (.nilFunc) 1 8 := ⟨by kernel_rfl⟩
instance : Agg Tryz.prog 118 false := ⟨_, Tryz.underlying118, rfl⟩
instance : Inf Tryz.prog 118 (.nilFunc) 1 8 := ⟨by kernel_rfl⟩
instance : Agg Tryz.prog 119 false := ⟨_, Tryz.underlying119, rfl⟩
instance : Inf Tryz.prog 119 (.nilFunc) 1 8 := ⟨by kernel_rfl⟩
instance : Agg Tryz.prog 120 false := ⟨_, Tryz.underlying120, rfl⟩
instance : Inf Tryz.prog 120 (.nilFunc) 1 8 := ⟨by kernel_rfl⟩
instance : Agg Tryz.prog 122 false := ⟨_, Tryz.underlying122, rfl⟩
instance : Inf Tryz.prog 122 (.nilFunc) 1 8 := ⟨by kernel_rfl⟩
instance : Agg Tryz.prog 123 false := ⟨_, Tryz.underlying123, rfl⟩
instance : Inf Tryz.prog 123 (.nilFunc) 1 8 := ⟨by kernel_rfl⟩
instance : Agg Tryz.prog 127 false := ⟨_, Tryz.underlying127, rfl⟩
instance : Inf Tryz.prog 127 (.nilFunc) 1 8 := ⟨by kernel_rfl⟩
instance : Agg Tryz.prog 128 false := ⟨_, Tryz.underlying128, rfl⟩
instance : Inf Tryz.prog 128 (.nilFunc) 1 8 := ⟨by kernel_rfl⟩
instance : Agg Tryz.prog 130 false := ⟨_, Tryz.underlying130, rfl⟩
instance : Inf Tryz.prog 130 (.nilFunc) 1 8 := ⟨by kernel_rfl⟩
instance : Agg Tryz.prog 133 false := ⟨_, Tryz.underlying133, rfl⟩
instance : Inf Tryz.prog 133 (.nilFunc) 1 8 := ⟨by kernel_rfl⟩
instance : Agg Tryz.prog 134 false := ⟨_, Tryz.underlying134, rfl⟩
instance : Inf Tryz.prog 134 (.nilFunc) 1 8 := ⟨by kernel_rfl⟩
instance : Agg Tryz.prog 135 false := ⟨_, Tryz.underlying135, rfl⟩
instance : Inf Tryz.prog 135 (.nilFunc) 1 8 := ⟨by kernel_rfl⟩
instance : Agg Tryz.prog 137 false := ⟨_, Tryz.underlying137, rfl⟩
instance : Inf Tryz.prog 137 (.nilFunc) 1 8 := ⟨by kernel_rfl⟩
instance : Agg Tryz.prog 139 false := ⟨_, Tryz.underlying139, rfl⟩
instance : Inf Tryz.prog 139 (.nilFunc) 1 8 := ⟨by kernel_rfl⟩
instance : Agg Tryz.prog 140 false := ⟨_, Tryz.underlying140, rfl⟩
instance : Inf Tryz.prog 140 (.nilFunc) 1 8 := ⟨by kernel_rfl⟩
instance : Agg Tryz.prog 141 false := ⟨_, Tryz.underlying141, rfl⟩
instance : Inf Tryz.prog 141 (.nilFunc) 1 8 := ⟨by kernel_rfl⟩
instance : Agg Tryz.prog 146 false := ⟨_, Tryz.underlying146, rfl⟩
instance : Inf Tryz.prog 146 (.nilFunc) 1 8 := ⟨by kernel_rfl⟩
instance : Agg Tryz.prog 147 false := ⟨_, Tryz.underlying147, rfl⟩
instance : Inf Tryz.prog 147 (.nilFunc) 1 8 := ⟨by kernel_rfl⟩
instance : Agg Tryz.prog 148 false := ⟨_, Tryz.underlying148, rfl⟩
instance : Inf Tryz.prog 148 (.nilFunc) 1 8 := ⟨by kernel_rfl⟩
instance : Agg Tryz.prog 150 false := ⟨_, Tryz.underlying150, rfl⟩
instance : Inf Tryz.prog 150 (.nilFunc) 1 8 := ⟨by kernel_rfl⟩
instance : Agg Tryz.prog 152 false := ⟨_, Tryz.underlying152, rfl⟩
instance : Inf Tryz.prog 152 (.nilFunc) 1 8 := ⟨by kernel_rfl⟩
instance : Agg Tryz.prog 153 false := ⟨_, Tryz.underlying153, rfl⟩
instance : Inf Tryz.prog 153 (.nilFunc) 1 8 := ⟨by kernel_rfl⟩
instance : Agg Tryz.prog 154 false := ⟨_, Tryz.underlying154, rfl⟩
instance : Inf Tryz.prog 154 (.nilFunc) 1 8 := ⟨by kernel_rfl⟩
instance : Agg Tryz.prog 155 false := ⟨_, Tryz.underlying155, rfl⟩
instance : Inf Tryz.prog 155 (.nilFunc) 1 8 := ⟨by kernel_rfl⟩
instance : Agg Tryz.prog 156 false := ⟨_, Tryz.underlying156, rfl⟩
instance : Inf Tryz.prog 156 (.nilFunc) 1 8 := ⟨by kernel_rfl⟩
instance : Agg Tryz.prog 158 false := ⟨_, Tryz.underlying158, rfl⟩
instance : Inf Tryz.prog 158 (.nilFunc) 1 8 := ⟨by kernel_rfl⟩
instance : Agg Tryz.prog 160 false := ⟨_, Tryz.underlying160, rfl⟩
instance : Inf Tryz.prog 160 (.nilFunc) 1 8 := ⟨by kernel_rfl⟩
instance : Agg Tryz.prog 161 false := ⟨_, Tryz.underlying161, rfl⟩
instance : Inf Tryz.prog 161 (.nilFunc) 1 8 := ⟨by kernel_rfl⟩
instance : Agg Tryz.prog 166 false := ⟨_, Tryz.underlying166, rfl⟩
instance : Inf Tryz.prog 166 (.nilFunc) 1 8 := ⟨by kernel_rfl⟩
instance : Agg Tryz.prog 168 false := ⟨_, Tryz.underlying168, rfl⟩
instance : Inf Tryz.prog 168 (.nilFunc) 1 8 := ⟨by kernel_rfl⟩
instance : Agg Tryz.prog 169 false := ⟨_, Tryz.underlying169, rfl⟩
instance : Inf Tryz.prog 169 (.nilFunc) 1 8 := ⟨by kernel_rfl⟩
instance : Agg Tryz.prog 177 false := ⟨_, Tryz.underlying177, rfl⟩
instance : Inf Tryz.prog 177 (.nilFunc) 1 8 := ⟨by kernel_rfl⟩
instance : Agg Tryz.prog 180 false := ⟨_, Tryz.underlying180, rfl⟩
instance : Inf Tryz.prog 180 (.nilFunc) 1 8 := ⟨by kernel_rfl⟩
instance : Agg Tryz.prog 184 false := ⟨_, Tryz.underlying184, rfl⟩
instance : Inf Tryz.prog 184 (.nilFunc) 1 8 := ⟨by kernel_rfl⟩
instance : Agg Tryz.prog 185 false := ⟨_, Tryz.underlying185, rfl⟩
instance : Inf Tryz.prog 185 (.nilFunc) 1 8 := ⟨by kernel_rfl⟩
instance : Agg Tryz.prog 186 false := ⟨_, Tryz.underlying186, rfl⟩
instance : Inf Tryz.prog 186 (.nilFunc) 1 8 := ⟨by kernel_rfl⟩
instance : Agg Tryz.prog 189 false := ⟨_, Tryz.underlying189, rfl⟩
instance : Inf Tryz.prog 189 (.nilFunc) 1 8 := ⟨by kernel_rfl⟩
instance : Agg Tryz.prog 195 false := ⟨_, Tryz.underlying195, rfl⟩
instance : Inf Tryz.prog 195 (.nilFunc) 1 8 := ⟨by kernel_rfl⟩
instance : Agg Tryz.prog 198 false := ⟨_, Tryz.underlying198, rfl⟩
instance : Inf Tryz.prog 198 (.nilFunc) 1 8 := ⟨by kernel_rfl⟩
end Go.Proofs.YtmnnffenijjpcaaGreatDoor

/-
  General steps: what is skipped, what is written, loops over functions (out of several texts).
-/
set_option linter.unusedSimpArgs false
set_option linter.unusedVariables false
set_option linter.unnecessarySimpa false
namespace Go.Sv
open Go Go.RowKit
/-- a guarded operation whose guard says no -/
theorem wlskipg {P : Program} {n : Nat} {ds : Ctx} {ops : Array Oper} {Q : Exit → Ctx → Env → World → Prop} {rest : List Oper} {σ : GE} {w : World} {d : Nat} {op : Op} {ty : TypeId} {pos : String} {af : Array Edge} {j dj : Nat} {want b c : Bool} (v : Value)
    (h : WL P n ds ops Q rest (real (updG σ d ⟨v, false⟩)) w)
    (hj : (ops[j]?).bind (·.dst) = some dj := by rfl) (hσ : σ dj = ⟨.bool c, b⟩ := by rfl) (hgt : (b && (c == want)) = false) :
    WL P n ds ops Q (⟨some d, op, ty, pos, af, some (j, want)⟩ :: rest) (real σ) w := by
  have hw := wanted_real (ops := ops) (o := ⟨some d, op, ty, pos, af, some (j, want)⟩) rfl hj hσ
  rw [hgt] at hw
  refine WL_skip hw ?_
  rw [← real_upd] at h
  exact h
/-- a store into a block of one's own -/
theorem y_sst {P : Program} {σ : Env} {w0 w : World} {cs : List Plot} {ty t : TypeId} {pos : String} {af : Array Edge} {g : Option (Nat × Bool)} {x y : Operand} {zv v : Value} {size bytes b j : Nat} {l : List Value} [hi : Inf P t zv size bytes] (hS : Sep w0 w cs) (i : Nat) (hc : cs[i]? = some (pOwn b l)) (hx : evl σ x = ptrAt (pb b) j) (hy : evl σ y = v) (hv : v.cells.size = size) (hk : j + size ≤ l.length) (h1 : ∀ u ∈ v.cells.toList, u.oneCell' = true) :
    ∃ w', Y P σ ⟨none, .store t x y, ty, pos, af, g⟩ w undef w' ∧ Sep w0 w' (cs.set i (pOwn b (l.take j ++ v.cells.toList ++ l.drop (j + size)))) := by
  obtain ⟨w', hr, h2, h3⟩ := run_store_own (P := P) (t := t) (hS.own i hc) hv hk h1
  refine ⟨w', Y.skip ?_, hS.upd i hc (lm_own h3) h2⟩
  simp only [execOp, hx, hy]
  rw [Sem.run_bind, hr]
  rfl
/-- all blocks of a list as they were -/
def pKeep (w1 : World) (F : List Nat) : Plot where
  foot := F.filter fun b => decide (b < w1.heap.size)
  ok w := ∀ b ∈ F, b < w1.heap.size → w.heap[b]? = w1.heap[b]?
  view := (none, [])
  loc _ _ h hb := fun b hF hlt => (hb b (List.mem_filter.2 ⟨hF, by simpa using hlt⟩)).trans (h b hF hlt)
  lt w h x hx := by
    obtain ⟨h1, h2⟩ := List.mem_filter.1 hx
    have h3 : x < w1.heap.size := by simpa using h2
    have h4 := h x h1 h3
    rw [Array.getElem?_eq_getElem h3] at h4
    exact (Array.getElem?_eq_some_iff.1 h4).1
  sg _ _ := .inl rfl
def feet (cs : List Plot) : List Nat := cs.flatMap Plot.foot
/-- the blocks that belong to no piece -/
def others (w0 w1 : World) (cs : List Plot) : List Nat := (List.range w1.heap.size).filter fun x => decide (w0.heap.size ≤ x) && !(decide (x ∈ feet cs))
section
variable {w0 w1 w2 w w' : World} {cs ds : List Plot} {B : Nat}
theorem Sep.keep (h : Sep w0 w1 cs) : Sep w0 w1 (pKeep w1 (others w0 w1 cs) :: cs) := by
  refine ⟨h.frm, ?_, ?_, ?_⟩
  · intro c hc
    rcases List.mem_cons.1 hc with rfl | hc
    · exact fun _ _ _ => rfl
    · exact h.ok c hc
  · intro c hc x hx
    rcases List.mem_cons.1 hc with rfl | hc
    · have := (List.mem_filter.1 (List.mem_filter.1 hx).1).2
      simp only [Bool.and_eq_true, decide_eq_true_eq] at this
      exact this.1
    · exact h.low c hc x hx
  · rw [List.pairwise_cons]
    refine ⟨fun c hc x hx hx' => ?_, h.apart⟩
    have := (List.mem_filter.1 (List.mem_filter.1 hx).1).2
    simp only [Bool.and_eq_true, Bool.not_eq_true', decide_eq_false_iff_not] at this
    exact this.2 (List.mem_flatMap.2 ⟨c, hc, hx'⟩)
theorem Sep.same (h : Sep w0 w1 cs) (hs : Same B w1 w2) (h0 : w0.heap.size ≤ B) (hB : ∀ x ∈ feet cs, x < B) : Sep w0 w2 cs :=
  ⟨⟨hs.os.trans h.frm.os, hs.tape.trans h.frm.tape, hs.output.trans h.frm.output, Nat.le_trans h0 hs.size, fun k hk => (hs.block k (Nat.lt_of_lt_of_le hk h0)).trans (h.frm.block k hk)⟩,
    fun c hc => c.loc w1 w2 (h.ok c hc) fun x hx => hs.block x (hB x (List.mem_flatMap.2 ⟨c, hc, hx⟩)), h.low, h.apart⟩
theorem Same.mono {B B' : Nat} (h : Same B w w') (hb : B' ≤ B) : Same B' w w' := ⟨h.os, h.tape, h.output, Nat.le_trans hb h.size, fun k hk => h.block k (Nat.lt_of_lt_of_le hk hb)⟩
end
def colls (Ds : List Nat) : List Deferred := Ds.map fun D => { target := .collected D, args := #[] }
theorem loop_fam {P : Program} {n : Nat} {fn : FuncId} {dd : List Deferred} {σ : GE} {ps : List Tmp} {a b : Code} {D l : Nat} {w : World} (hL : LoopAt w l (recOf P n fn dd σ ps a b D .ready none)) : ∃ rc : LoopState → Option Code → Loop, rc = recOf P n fn dd σ ps a b D ∧ LoopAt w l (rc .ready none) := ⟨_, rfl, hL⟩
theorem y_salloc {P : Program} {σ : Env} {w0 w : World} {cs : List Plot} {ty e : TypeId} {pos : String} {af : Array Edge} {g : Option (Nat × Bool)} {d : Option Tmp} {zv : Value} {size bytes : Nat} [hi : Inf P e zv size bytes] (hS : Sep w0 w cs) :
    ∃ b w', Y P σ ⟨d, .alloc e, ty, pos, af, g⟩ w (ptrAt (pb b) 0) w' ∧ Sep w0 w' (pOwn b zv.cells.toList :: cs) := by
  refine ⟨w.heap.size, w.alloc (.cells zv.cells e), Y.val ?_, hS.push (frm_alloc _ _) (own_alloc _ _ _) (by simp [pOwn])⟩
  simp [execOp, Instr.alloc, Sem.run_bind, run_zeroValue (P := P) (t := e), newVar, newRow]
  rfl
end Go.Sv

/-
  Loops and cuts where what is deferred changes; a result that lies in a cell.
-/
set_option linter.unusedSimpArgs false
set_option linter.unusedVariables false
set_option linter.unnecessarySimpa false
namespace Go.Sv
open Go Go.RowKit
section
variable {P : Program} {n : Nat} {Q : Exit → Ctx → Env → World → Prop} {σ : Env} {w : World} {c : Code}
end
/-- a result of one cell that lies in a cell -/
theorem fpc1 {P : Program} {n : Nat} {fn : Func} {R : Value → World → Prop} {σ : Env} {w : World} {tt : Nat} {ty : TypeId} {ex : Exit} {b : Nat} {v : Value} {ds : Ctx} (hex : ex = .ret ∨ ex = .normal) (hr : fn.results = #[.cell tt ty]) (ht : Nat.blt tt n = true) (hp : σ tt = .pointer (pb b)) (ho : Own w b [v])
    [ha : Agg P ty false] (h : R v w) (hd : ds.ds = [] := by rfl) : fpost P n fn R ex ds σ w := by
  refine fp_of hex hd ?_ h
  have hp' : (act n ds.ds σ).tmps.getD tt undef = .pointer (pb b) := by rw [act_getD ht]; exact hp
  have hp2 : (act n ds.ds σ).tmps[tt]?.getD undef = .pointer (pb b) := by simpa using hp'
  obtain ⟨T, ho⟩ := ho
  have hc : w.cell? ⟨b, 0, none⟩ = some v := by rw [cell_of_row w b 0 _ _ _ ho]; rfl
  simp [results, hr, hp2, asAddr, pb, loadVar, run_isAgg (P := P) (t := ty), hc]
end Go.Sv

/-
  Package nest: the small functions; down; topmost.
-/
set_option linter.unusedSimpArgs false
set_option linter.unusedVariables false
set_option linter.unnecessarySimpa false
namespace Go.Sv
open Go Go.RowKit
/-- a function's value that asks a name something -/
def Fv (P : Program) (w : World) (v : Value) (p : List UInt8 → Bool) : Prop :=
  ∃ (f : FuncId) (first cap : List Value), Fnc P f ∧ v = .func (.func f) ⟨first⟩ ⟨cap⟩ ∧ ∀ w', Frm w w' → ∀ n : List UInt8, PureC P f (first ++ [str n] ++ cap).toArray w' (.bool (p n))
theorem Fv.frm {P : Program} {w w' : World} {v : Value} {p : List UInt8 → Bool} (h : Fv P w v p) (hf : Frm w w') : Fv P w' v p := by
  obtain ⟨f, first, cap, h1, h2, h3⟩ := h
  exact ⟨f, first, cap, h1, h2, fun w2 hf2 => h3 w2 (hf.trans hf2)⟩
end Go.Sv
namespace Go.Proofs.YtmnnffenijjpcaaGreatDoor
open Go Go.Sv Go.RowKit

theorem nCell_ok (n : Nm) (w : World) : PureC Tryz.prog 105 #[str n] w (.bool (isCell n)) := by
  refine enter (l := [str n]) Tryz.func105 rfl Tryz.ntmps105 (by kernel_rfl) rfl ?_
  refine sgo ?_
  (first | refine fp1 (.inl rfl) rfl rfl ?_ | refine fp2 (.inl rfl) rfl rfl rfl ?_ | refine fp3 (.inl rfl) rfl rfl rfl rfl ?_ | refine fp0 (.inr rfl) rfl ?_ | refine fp0 (.inl rfl) rfl ?_ | refine fp1 (.inr rfl) rfl rfl ?_); refine ⟨?_, by (first | exact Frm.refl _ | assumption | exact Go.Sv.Sep.frm (by assumption) | (refine Frm.trans ?_ (by assumption); first | exact Frm.refl _ | assumption))⟩; (try simp only [realB, rv_true, Nat.reduceBEq, cond_true, cond_false, entG, real_lif, updGL])
  rw [pkb_or, pkb_or]
  rfl
theorem nWall_ok (n : Nm) (w : World) : PureC Tryz.prog 94 #[str n] w (.bool (isWall n)) := by
  refine enter (l := [str n]) Tryz.func94 rfl Tryz.ntmps94 (by kernel_rfl) rfl ?_
  refine sgo ?_
  refine wlpure (nCell_ok n _) fun w1 hf1 => ?_
  refine sgo ?_
  (first | refine fp1 (.inl rfl) rfl rfl ?_ | refine fp2 (.inl rfl) rfl rfl rfl ?_ | refine fp3 (.inl rfl) rfl rfl rfl rfl ?_ | refine fp0 (.inr rfl) rfl ?_ | refine fp0 (.inl rfl) rfl ?_ | refine fp1 (.inr rfl) rfl rfl ?_); refine ⟨?_, by (first | exact Frm.refl _ | assumption | exact Go.Sv.Sep.frm (by assumption) | (refine Frm.trans ?_ (by assumption); first | exact Frm.refl _ | assumption))⟩; (try simp only [realB, rv_true, Nat.reduceBEq, cond_true, cond_false, entG, real_lif, updGL])
  rw [pkb_or]
  rfl
theorem nGroup_ok (n : Nm) (w : World) : PureC Tryz.prog 87 #[str n] w (.bool (isGroup n)) := by
  refine enter (l := [str n]) Tryz.func87 rfl Tryz.ntmps87 (by kernel_rfl) rfl ?_
  refine sgo ?_
  (first | refine fp1 (.inl rfl) rfl rfl ?_ | refine fp2 (.inl rfl) rfl rfl rfl ?_ | refine fp3 (.inl rfl) rfl rfl rfl rfl ?_ | refine fp0 (.inr rfl) rfl ?_ | refine fp0 (.inl rfl) rfl ?_ | refine fp1 (.inr rfl) rfl rfl ?_); refine ⟨?_, by (first | exact Frm.refl _ | assumption | exact Go.Sv.Sep.frm (by assumption) | (refine Frm.trans ?_ (by assumption); first | exact Frm.refl _ | assumption))⟩; (try simp only [realB, rv_true, Nat.reduceBEq, cond_true, cond_false, entG, real_lif, updGL])
  rw [pkb_or, pkb_or]
  rfl
theorem nList_ok (n : Nm) (w : World) : PureC Tryz.prog 88 #[str n] w (.bool (isLst n)) := by
  refine enter (l := [str n]) Tryz.func88 rfl Tryz.ntmps88 (by kernel_rfl) rfl ?_
  refine sgo ?_
  (first | refine fp1 (.inl rfl) rfl rfl ?_ | refine fp2 (.inl rfl) rfl rfl rfl ?_ | refine fp3 (.inl rfl) rfl rfl rfl rfl ?_ | refine fp0 (.inr rfl) rfl ?_ | refine fp0 (.inl rfl) rfl ?_ | refine fp1 (.inr rfl) rfl rfl ?_); refine ⟨?_, by (first | exact Frm.refl _ | assumption | exact Go.Sv.Sep.frm (by assumption) | (refine Frm.trans ?_ (by assumption); first | exact Frm.refl _ | assumption))⟩; (try simp only [realB, rv_true, Nat.reduceBEq, cond_true, cond_false, entG, real_lif, updGL])
  rw [pkb_or, pkb_or]
  rfl
theorem nHead_ok (n : Nm) (w : World) (hA : Asc w) : PureC Tryz.prog 95 #[str n] w (.bool (isHead n)) := by
  refine enter (l := [str n]) Tryz.func95 rfl Tryz.ntmps95 (by kernel_rfl) rfl ?_
  refine sgo ?_
  refine wlpure (inK_ok 5 (by decide) n _ hA) fun w1 hf1 => ?_
  refine sgo ?_
  (first | refine fp1 (.inl rfl) rfl rfl ?_ | refine fp2 (.inl rfl) rfl rfl rfl ?_ | refine fp3 (.inl rfl) rfl rfl rfl rfl ?_ | refine fp0 (.inr rfl) rfl ?_ | refine fp0 (.inl rfl) rfl ?_ | refine fp1 (.inr rfl) rfl rfl ?_); refine ⟨?_, by (first | exact Frm.refl _ | assumption | exact Go.Sv.Sep.frm (by assumption) | (refine Frm.trans ?_ (by assumption); first | exact Frm.refl _ | assumption))⟩; (try simp only [realB, rv_true, Nat.reduceBEq, cond_true, cond_false, entG, real_lif, updGL])
  rfl
theorem nNever_ok (n : Nm) (w : World) : PureC Tryz.prog 96 #[str n] w (.bool (noNm n)) := by
  refine enter (l := [str n]) Tryz.func96 rfl Tryz.ntmps96 (by kernel_rfl) rfl ?_
  refine sgo ?_
  (first | refine fp1 (.inl rfl) rfl rfl ?_ | refine fp2 (.inl rfl) rfl rfl rfl ?_ | refine fp3 (.inl rfl) rfl rfl rfl rfl ?_ | refine fp0 (.inr rfl) rfl ?_ | refine fp0 (.inl rfl) rfl ?_ | refine fp1 (.inr rfl) rfl rfl ?_); refine ⟨?_, by (first | exact Frm.refl _ | assumption | exact Go.Sv.Sep.frm (by assumption) | (refine Frm.trans ?_ (by assumption); first | exact Frm.refl _ | assumption))⟩; (try simp only [realB, rv_true, Nat.reduceBEq, cond_true, cond_false, entG, real_lif, updGL])
  rfl
theorem fvCell (w : World) : Fv Tryz.prog w (.func (.func 105) #[] #[]) isCell := ⟨_, [], [], inferInstance, rfl, fun w' _ n => nCell_ok n w'⟩
theorem fvWall (w : World) : Fv Tryz.prog w (.func (.func 94) #[] #[]) isWall := ⟨_, [], [], inferInstance, rfl, fun w' _ n => nWall_ok n w'⟩
theorem fvList (w : World) : Fv Tryz.prog w (.func (.func 88) #[] #[]) isLst := ⟨_, [], [], inferInstance, rfl, fun w' _ n => nList_ok n w'⟩
theorem fvNever (w : World) : Fv Tryz.prog w (.func (.func 96) #[] #[]) noNm := ⟨_, [], [], inferInstance, rfl, fun w' _ n => nNever_ok n w'⟩
theorem fvHead (w : World) (hA : Asc w) : Fv Tryz.prog w (.func (.func 95) #[] #[]) isHead := ⟨_, [], [], inferInstance, rfl, fun w' hf n => nHead_ok n w' (hA.frm hf)⟩
theorem named1_ok (n m : Nm) (b : Nat) (w : World) (ho : Sg w (pb b) [str m]) : PureC Tryz.prog 116 #[str n, ptrAt (pb b) 0] w (.bool (isNm m n)) := by
  refine enter (l := [str n, ptrAt (pb b) 0]) Tryz.func116 rfl Tryz.ntmps116 (by kernel_rfl) rfl ?_
  refine sgo ?_
  (first | refine fp1 (.inl rfl) rfl rfl ?_ | refine fp2 (.inl rfl) rfl rfl rfl ?_ | refine fp3 (.inl rfl) rfl rfl rfl rfl ?_ | refine fp0 (.inr rfl) rfl ?_ | refine fp0 (.inl rfl) rfl ?_ | refine fp1 (.inr rfl) rfl rfl ?_); refine ⟨?_, by (first | exact Frm.refl _ | assumption | exact Go.Sv.Sep.frm (by assumption) | (refine Frm.trans ?_ (by assumption); first | exact Frm.refl _ | assumption))⟩; (try simp only [realB, rv_true, Nat.reduceBEq, cond_true, cond_false, entG, real_lif, updGL])
  rfl
/-- named: a function's value -/
theorem named_ok (m : Nm) (w0 w : World) (cs : List Plot) (hS0 : Sep w0 w cs) : CallsR Tryz.prog 93 #[str m] w fun v w' => Frm w w' ∧ Fv Tryz.prog w' v (isNm m) := by
  have hS := Sep.start w
  refine enter (l := [str m]) Tryz.func93 rfl Tryz.ntmps93 (by kernel_rfl) rfl ?_
  refine sgo ?_
  refine sbox (v := str m) hS fun b w1 hS => ?_
  replace hS : Sep w w1 [pOwn b [str m]] := hS
  refine sgo ?_
  (first | refine fp1 (.inl rfl) rfl rfl ?_ | refine fp2 (.inl rfl) rfl rfl rfl ?_ | refine fp3 (.inl rfl) rfl rfl rfl rfl ?_ | refine fp0 (.inr rfl) rfl ?_ | refine fp0 (.inl rfl) rfl ?_ | refine fp1 (.inr rfl) rfl rfl ?_)
  refine ⟨hS.frm, _, [], [ptrAt (pb b) 0], inferInstance, rfl, fun w' hf n => ?_⟩
  exact named1_ok n m b w' (((hS.own 0 rfl).im (M := []) (by simp)).frm hf).sg
theorem nTop_ok (s : List Nm) (q : Option Addr) (c : Nat) (hl : s.length ≤ 4194304) (w : World) (hi : Im [] w q (strs s)) : PureC Tryz.prog 86 #[.slice q s.length c] w (str (topR s)) := by
  have hsl := strs_len s
  refine enter (l := [.slice q s.length c]) Tryz.func86 rfl Tryz.ntmps86 (by kernel_rfl) rfl ?_
  refine sgo ?_
  (show WC _ _ _ _ _ _ _; first | refine WC_dec rfl (fun hc => ?_) (fun hc => ?_) | refine WC_cond rfl (fun hc => ?_) (fun hc => ?_))
  · have h0 : s = [] := List.eq_nil_of_length_eq_zero (by omega)
    subst h0
    refine sgo ?_
    (first | refine fp1 (.inl rfl) rfl rfl ?_ | refine fp2 (.inl rfl) rfl rfl rfl ?_ | refine fp3 (.inl rfl) rfl rfl rfl rfl ?_ | refine fp0 (.inr rfl) rfl ?_ | refine fp0 (.inl rfl) rfl ?_ | refine fp1 (.inr rfl) rfl rfl ?_); refine ⟨?_, by (first | exact Frm.refl _ | assumption | exact Go.Sv.Sep.frm (by assumption) | (refine Frm.trans ?_ (by assumption); first | exact Frm.refl _ | assumption))⟩; (try simp only [realB, rv_true, Nat.reduceBEq, cond_true, cond_false, entG, real_lif, updGL])
    rfl
  · have h0 : 0 < s.length := by omega
    have hx : s[s.length - 1]? = some (topR s) := by
      unfold topR
      rw [List.getLast?_eq_getElem?, List.getElem?_eq_getElem (by omega)]
      rfl
    have hxv := strs_at hx
    have hps : ∃ a, q = some a := hi.some (by omega)
    have i1 : ((s.length : Int) - 1).toNat = s.length - 1 := by omega
    generalize topR s = x at *
    clear hc
    refine sgo ?_
    rw [i1]
    refine sgo ?_
    (first | refine fp1 (.inl rfl) rfl rfl ?_ | refine fp2 (.inl rfl) rfl rfl rfl ?_ | refine fp3 (.inl rfl) rfl rfl rfl rfl ?_ | refine fp0 (.inr rfl) rfl ?_ | refine fp0 (.inl rfl) rfl ?_ | refine fp1 (.inr rfl) rfl rfl ?_); refine ⟨?_, by (first | exact Frm.refl _ | assumption | exact Go.Sv.Sep.frm (by assumption) | (refine Frm.trans ?_ (by assumption); first | exact Frm.refl _ | assumption))⟩; (try simp only [realB, rv_true, Nat.reduceBEq, cond_true, cond_false, entG, real_lif, updGL])
end Go.Proofs.YtmnnffenijjpcaaGreatDoor

/-
  Package nest: down, topmost.
-/
set_option linter.unusedSimpArgs false
set_option linter.unusedVariables false
set_option linter.unnecessarySimpa false
namespace Go.Proofs.YtmnnffenijjpcaaGreatDoor
open Go Go.Sv Go.RowKit

set_option maxHeartbeats 2000000 in
/-- down, called with yield: from the top -/
theorem down1_ok (lr bS : Nat) (s : List Nm) (q : Option Addr) (c : Nat) (hl : s.length ≤ 4194304) (J Jx : Nat → World → Prop)
    (hJE : ∀ k w, J k w → Sg w (pb bS) [.slice q s.length c] ∧ Im [] w q (strs s)) (hst : ∀ k w w', J k w → Frm w w' → J k w')
    (hY : ∀ k w x, J (k + 1) w → s[k]? = some x → Yld Tryz.prog lr [int k, str x] w fun bb w' => if bb = true then J k w' else Jx k w') (w : World) (h0 : J s.length w) :
    CallsR Tryz.prog 132 #[.func (.yield lr) #[] #[], ptrAt (pb bS) 0] w fun _ w' => J 0 w' ∨ ∃ k, k < s.length ∧ Jx k w' := by
  have hE0 := (hJE _ _ h0).1
  have hsl := strs_len s
  refine enter (l := [.func (.yield lr) #[] #[], ptrAt (pb bS) 0]) Tryz.func132 rfl Tryz.ntmps132 (by kernel_rfl) rfl ?_
  refine sgo ?_
  refine wcloop (X := Nat) (fun k => [(0, .func (.yield lr) #[] #[]), (1, ptrAt (pb bS) 0), (3, .int .i64 ((k : Int) - 1))]) (fun k wr => k ≤ s.length ∧ J k wr) (fun k => k) s.length ⟨rfl, rfl, rfl, trivial⟩ ⟨Nat.le_refl _, h0⟩ ?_
  clear h0 hE0
  rintro k wr ρ ⟨hk, hJ⟩
  obtain ⟨hE, hI⟩ := hJE _ _ hJ
  cases k with
  | zero =>
    refine sgo ?_
    (first | refine fp1 (.inl rfl) rfl rfl ?_ | refine fp2 (.inl rfl) rfl rfl rfl ?_ | refine fp3 (.inl rfl) rfl rfl rfl rfl ?_ | refine fp0 (.inr rfl) rfl ?_ | refine fp0 (.inl rfl) rfl ?_ | refine fp1 (.inr rfl) rfl rfl ?_)
    exact .inl hJ
  | succ k =>
    have hx : s[k]? = some s[k] := List.getElem?_eq_getElem (by omega)
    have hxv := strs_at hx
    have hps : ∃ a, q = some a := hI.some (by omega)
    have hyl := hY k wr _ hJ hx
    generalize s[k] = x at *
    rw [show (((k + 1 : Nat) : Int) - 1) = (k : Int) by omega]
    refine sgo ?_
    (show WC _ _ _ _ _ _ _; first | refine WC_dec rfl (fun hc => ?_) (fun hc => ?_) | refine WC_cond rfl (fun hc => ?_) (fun hc => ?_))
    · refine sgo ?_
      refine wlyield hyl fun bb w2 hbb => ?_
      cases bb with
      | true =>
        refine sgo ?_
        exact ⟨k, ⟨rfl, rfl, rfl, trivial⟩, ⟨by omega, hbb⟩, by omega⟩
      | false =>
        refine sgo ?_
        (first | refine fp1 (.inl rfl) rfl rfl ?_ | refine fp2 (.inl rfl) rfl rfl rfl ?_ | refine fp3 (.inl rfl) rfl rfl rfl rfl ?_ | refine fp0 (.inr rfl) rfl ?_ | refine fp0 (.inl rfl) rfl ?_ | refine fp1 (.inr rfl) rfl rfl ?_)
        exact .inr ⟨k, by omega, hbb⟩
    · omega
theorem down_ok (s : List Nm) (q : Option Addr) (c : Nat) (w0 w : World) (cs : List Plot) (hS : Sep w0 w cs) : CallsR Tryz.prog 117 #[.slice q s.length c] w fun v w' => ∃ b, v = .func (.func 132) #[] #[ptrAt (pb b) 0] ∧ Sep w0 w' (pOwn b [.slice q s.length c] :: cs) := by
  refine enter (l := [.slice q s.length c]) Tryz.func117 rfl Tryz.ntmps117 (by kernel_rfl) rfl ?_
  refine sgo ?_
  refine sbox (v := .slice q s.length c) hS fun b w1 hS => ?_
  refine sgo ?_
  (first | refine fp1 (.inl rfl) rfl rfl ?_ | refine fp2 (.inl rfl) rfl rfl rfl ?_ | refine fp3 (.inl rfl) rfl rfl rfl rfl ?_ | refine fp0 (.inr rfl) rfl ?_ | refine fp0 (.inl rfl) rfl ?_ | refine fp1 (.inr rfl) rfl rfl ?_)
  exact ⟨b, rfl, hS⟩
/-- the answer of topmost -/
def placeV (o : Option Nat) : Value := match o with
  | some i => int i
  | none => .int .i64 (-1)
theorem topK_step {is stops : Nm → Bool} {s : List Nm} {k : Nat} {x : Nm} (h : s[k]? = some x) : topK is stops s (k + 1) = if stops x then none else if is x then some k else topK is stops s k := by
  simp only [topK]
  rw [List.getD_eq_getElem?_getD, h]; rfl
set_option maxHeartbeats 4000000 in
theorem topmost_ok (s : List Nm) (q : Option Addr) (c : Nat) (hl : s.length ≤ 4194304) (v1 v2 : Value) (is stops : Nm → Bool) (w : World) (hi : Im [] w q (strs s)) (h1 : Fv Tryz.prog w v1 is) (h2 : Fv Tryz.prog w v2 stops) :
    PureC Tryz.prog 97 #[.slice q s.length c, v1, v2] w (placeV (tpm is stops s)) := by
  obtain ⟨f1, fs1, cp1, hf1, rfl, hc1⟩ := h1
  obtain ⟨f2, fs2, cp2, hf2, rfl, hc2⟩ := h2
  have hS := Sep.start w
  refine enter (l := [.slice q s.length c, .func (.func f1) ⟨fs1⟩ ⟨cp1⟩, .func (.func f2) ⟨fs2⟩ ⟨cp2⟩]) Tryz.func97 rfl Tryz.ntmps97 (by kernel_rfl) rfl ?_
  refine sgo ?_
  refine sbox (v := .func (.func f1) ⟨fs1⟩ ⟨cp1⟩) hS fun b4 w1 hS => ?_
  refine sgo ?_
  refine sbox (v := .func (.func f2) ⟨fs2⟩ ⟨cp2⟩) hS fun b5 w2 hS => ?_
  refine sgo ?_
  refine salloc hS fun b6 w3 hS => ?_
  replace hS : Sep w w3 [pOwn b6 [int 0], pOwn b5 [.func (.func f2) ⟨fs2⟩ ⟨cp2⟩], pOwn b4 [.func (.func f1) ⟨fs1⟩ ⟨cp1⟩]] := hS
  refine sgo ?_
  refine wlcall (down_ok s q c w _ _ hS) ?_
  repeat clear hS
  rintro _ w4 ⟨bS, rfl, hS⟩
  obtain ⟨R, hR⟩ : ∃ R, R = tpm is stops s := ⟨_, rfl⟩
  rw [← hR]
  unfold tpm at hR
  refine sgo ?_
  refine wcrangef (cap := [ptrAt (pb bS) 0]) rfl rfl ?_
  intro fn lr D wa hD hlr hne hfa hLo hN
  obtain ⟨rc, hrc, hLo⟩ := loop_fam hLo
  replace hS := hS.loop hfa hLo hN hlr hD hne
  clear hLo hN hfa
  refine CallsR.mono (down1_ok lr bS s q c hl
    (fun k w' => topK is stops s k = R ∧ Sep w w' [pLoop lr (rc .ready none), pDef D, pOwn bS [.slice q s.length c], pOwn b6 [int 0], pOwn b5 [.func (.func f2) ⟨fs2⟩ ⟨cp2⟩], pOwn b4 [.func (.func f1) ⟨fs1⟩ ⟨cp1⟩]])
    (fun _ w' => Sep w w' [pLoop lr (rc .done (some .ret)), pDef D, pOwn bS [.slice q s.length c], pOwn b6 [placeV R], pOwn b5 [.func (.func f2) ⟨fs2⟩ ⟨cp2⟩], pOwn b4 [.func (.func f1) ⟨fs1⟩ ⟨cp1⟩]])
    ?_ ?_ ?_ wa ⟨hR.symm, hS⟩) ?_
  · rintro k w' ⟨_, hS⟩
    exact ⟨(hS.own 2 rfl).sg, hi.frm hS.frm⟩
  · rintro k w' w'' ⟨h, hS⟩ hf
    exact ⟨h, hS.grow hf⟩
  · repeat clear hS
    subst hrc
    rintro k w' x ⟨hk, hS⟩ hx
    rw [topK_step hx] at hk
    refine yld_of (hS.loopAt 0 rfl) rfl (by kernel_rfl) ?_
    refine sgo ?_
    refine ⟨hS.loopAt 0 rfl, fun w11 hl11 hL11 => ?_⟩
    replace hS := hS.turnLoop 0 rfl hl11 hL11
    obtain ⟨rb, hrb, hL11⟩ : ∃ rb : Loop, rb = _ ∧ LoopAt w11 lr rb := ⟨_, rfl, hL11⟩
    have hs5 : Sg w11 (pb b5) [.func (.func f2) ⟨fs2⟩ ⟨cp2⟩] := (hS.own 4 rfl).sg
    have hs4 : Sg w11 (pb b4) [.func (.func f1) ⟨fs1⟩ ⟨cp1⟩] := (hS.own 5 rfl).sg
    refine sgo ?_
    refine wlcallv (hc2 _ hS.frm x) ?_
    rintro _ w12 ⟨rfl, hf12⟩
    replace hS := hS.grow hf12
    clear hs4
    have hs4 : Sg w12 (pb b4) [.func (.func f1) ⟨fs1⟩ ⟨cp1⟩] := (hS.own 5 rfl).sg
    cases h2 : stops x with
    | true =>
      rw [h2, if_pos rfl] at hk
      refine sgo ?_
      refine sst_int hS 3 fun w13 hS => ?_
      refine sgo ?_
      refine rnd_ret (hS.loopAt 0 rfl) fun w18 hl18 hL18 => ?_
      replace hS := hS.turnLoop 0 rfl hl18 hL18
      rw [← hk]
      exact hS
    | false =>
      rw [h2, if_neg Bool.false_ne_true] at hk
      refine sgo ?_
      refine wlcallv (hc1 _ hS.frm x) ?_
      rintro _ w13 ⟨rfl, hf13⟩
      replace hS := hS.grow hf13
      cases h1 : is x with
      | true =>
        rw [h1, if_pos rfl] at hk
        refine sgo ?_
        refine sst_int hS 3 fun w14 hS => ?_
        refine sgo ?_
        refine rnd_ret (hS.loopAt 0 rfl) fun w18 hl18 hL18 => ?_
        replace hS := hS.turnLoop 0 rfl hl18 hL18
        rw [← hk]
        exact hS
      | false =>
        rw [h1, if_neg Bool.false_ne_true] at hk
        refine sgo ?_
        refine rnd_normal (hS.loopAt 0 rfl) fun w18 hl18 hL18 => ?_
        exact ⟨hk, hS.turnLoop 0 rfl hl18 hL18⟩
  · repeat clear hS
    rintro v wb (⟨hk, hS⟩ | ⟨k, hk, hS⟩)
    · refine ⟨.ready, none, by simp, by rw [← hrc]; exact hS.loopAt 0 rfl, fun wc hlc => aft_none ?_⟩
      replace hS := Sep.lose hS hlc
      refine sgo ?_
      refine sst_int hS 2 fun w14 hS => ?_
      refine sgo ?_
      refine fp_mark (.inl rfl) (hS.noDef 0 rfl) ?_
      replace hS := hS.undef
      refine fpc1 (.inl rfl) rfl rfl rfl (hS.own 1 rfl) ⟨?_, hS.frm⟩
      rw [← hk]; rfl
    · refine ⟨.done, some .ret, by simp, by rw [← hrc]; exact hS.loopAt 0 rfl, fun wc hlc => aft_ret ?_⟩
      replace hS := Sep.lose hS hlc
      refine sgo ?_
      refine fp_mark (.inl rfl) (hS.noDef 0 rfl) ?_
      replace hS := hS.undef
      exact fpc1 (.inl rfl) rfl rfl rfl (hS.own 1 rfl) ⟨rfl, hS.frm⟩
end Go.Proofs.YtmnnffenijjpcaaGreatDoor

/-
  A scope in which the run jumps back to its label, once.
-/
set_option linter.unusedSimpArgs false
set_option linter.unusedVariables false
set_option linter.unnecessarySimpa false
namespace Go.Sv
open Go Go.RowKit
/-- what a jump leaves -/
def jmpq (l : Nat) (c : Ctx) (K : Env → World → Prop) (Q : Exit → Ctx → Env → World → Prop) : Exit → Ctx → Env → World → Prop
  | .goto l', c', σ, w => l' = l ∧ c' = c ∧ K σ w
  | e, c', σ, w => Q e c' σ w
section
variable {P : Program} {n l : Nat} {ds : Ctx} {Q : Exit → Ctx → Env → World → Prop} {K : Ctx → Env → World → Prop} {L : Env → World → Prop} {σ : Env} {w : World} {c rest : Code}
end
/-- a cut behind a piece of code that stands in a block -/
theorem wcutj {P : Program} {n i : Nat} {ds : Ctx} {K : Ctx → Env → World → Prop} {Q : Exit → Ctx → Env → World → Prop} {σ : Env} {w : World} {a : Code} {X : Type} (sl : X → List (Nat × Value)) (I : X → World → Prop)
    (ha : WC P n ds a (blk i (thl ds (fun σ w => ∃ x, Has σ (sl x) ∧ I x w) Q)) σ w) (hb : ∀ x w (ρ : GE), I x w → K ds (real (updGL ρ (sl x))) w) : WC P n ds a (blk i (thn K Q)) σ w := by
  refine WC_mono ha ?_
  have hn : ∀ c' σ' w', thl ds (fun σ w => ∃ x, Has σ (sl x) ∧ I x w) Q .normal c' σ' w' → thn K Q .normal c' σ' w' := by
    intro c' σ' w' h
    unfold thl at h
    unfold thn
    obtain ⟨rfl, x, h1, h2⟩ := h
    have := hb x w' (lif σ') h2
    rw [← real_updL, updL_has h1] at this
    exact this
  intro e c' σ' w' h
  unfold blk at h ⊢
  cases e with
  | normal => exact hn _ _ _ h
  | exit j =>
    dsimp only at h ⊢
    cases hj : Nat.beq j i with
    | true => rw [hj] at h; exact hn _ _ _ h
    | false => rw [hj] at h; unfold thl at h; unfold thn; exact h
  | _ => unfold thl at h; unfold thn; exact h
theorem Sep.asRow {w0 w : World} {b size n : Nat} {l : List Value} {cs : List Plot} (h : Sep w0 w (pOwn b l :: cs)) (hl : l.length = n * size) (hn : n ≤ 9223372036854775807) : Sep w0 w (pRow size (pb b) n n l :: cs) :=
  h.turn (c' := pRow size (pb b) n n l) 0 rfl (fun h => Row.of_own h hl hn) fun _ hx => hx
theorem Sep.nilRow {w0 w : World} {cs : List Plot} (h : Sep w0 w cs) (size : Nat) : Sep w0 w (pRow size none 0 0 [] :: cs) := h.push (Frm.refl w) (Row.nil w size) (by simp [pRow, rb])
attribute [irreducible] jmpq
end Go.Sv

