/-
  Our texts SvMendB, SvIter, SvRunes, SvRunesB, SvMendC, SvPl1, SvLkA, SvLkB, SvLkC, SvLkD, SvLkE, SvLkF, SvLkG, SvVal, SvLkQ, joined.
-/
import Derived.Test.YtffaoehhhdcjjaaDoorMg4
import Derived.Laws.Cover4
import Derived.Laws.MakeOwn
/-
  Package sieveref01: Bytes, Text, Runes, Mend.
-/
set_option linter.unusedSimpArgs false
set_option linter.unusedVariables false
set_option linter.unnecessarySimpa false
namespace Go.Proofs.YtffaoehhhdcjjaaDoor
open Go Go.Sv Go.RowKit

/-- runes as cells -/
def rs32 (rs : List Nat) : List Value := rs.map fun n : Nat => i32 n
theorem rs32_length (rs : List Nat) : (rs32 rs).length = rs.length := by simp [rs32]
theorem rs32_get {rs : List Nat} {i r : Nat} (h : rs[i]? = some r) : (rs32 rs)[i]? = some (i32 r) := by simp [rs32, h]
theorem bs_app (a b : List UInt8) : bs a ++ bs b = bs (a ++ b) := by simp [bs]
theorem one_bs (a : List UInt8) : ∀ u ∈ bs a, u.oneCell' = true := by
  intro u hu
  unfold bs at hu
  obtain ⟨c, _, rfl⟩ := List.mem_map.1 hu
  rfl
theorem one_rs (a : List Nat) : ∀ u ∈ rs32 a, u.oneCell' = true := by
  intro u hu
  unfold rs32 at hu
  obtain ⟨c, _, rfl⟩ := List.mem_map.1 hu
  rfl

set_option maxHeartbeats 2000000 in
theorem refBytes_ok (rs : List Nat) (p : Option Addr) (c : Nat) (hb : rs.length ≤ 1073741824) (hg : ∀ r ∈ rs, Good r) (w : World) (hi : Im [] w p (rs32 rs)) :
    CallsR Tryd.prog 79 #[.slice p rs.length c] w (NewB w (rs.flatMap encR)) := by
  have hl32 := rs32_length rs
  refine enter (l := [.slice p rs.length c]) Tryd.func79 rfl Tryd.ntmps79 (by kernel_rfl) rfl ?_
  refine sgo ?_
  refine wcloop (X := Nat × Option Addr × Nat) (fun x => [(3, .slice x.2.1 ((rs.take x.1).flatMap encR).length x.2.2), (6, .slice p rs.length c), (7, int rs.length), (8, int x.1)])
    (fun x wr => x.1 ≤ rs.length ∧ Frm w wr ∧ Row wr 1 x.2.1 ((rs.take x.1).flatMap encR).length x.2.2 (bs ((rs.take x.1).flatMap encR)) ∧ ∀ b ∈ rb x.2.1, w.heap.size ≤ b)
    (fun x => rs.length - x.1) (0, none, 0) ⟨rfl, rfl, rfl, rfl, trivial⟩ ⟨by omega, Frm.refl _, Row.nil _ _, rb_nil _⟩ ?_
  rintro ⟨i, q, cc⟩ wr ρ ⟨hil, hfr, hR, hq⟩
  dsimp only at hil hR hq ⊢
  have hfl := encR_flat (rs.take i)
  have htl : (rs.take i).length ≤ rs.length := by simp; omega
  refine sgo ?_
  (show WC _ _ _ _ _ _ _; first | refine WC_dec rfl (fun hc => ?_) (fun hc => ?_) | refine WC_cond rfl (fun hc => ?_) (fun hc => ?_))
  · have hlt : i < rs.length := by omega
    have hx : rs[i]? = some rs[i] := List.getElem?_eq_getElem hlt
    have hgr := hg rs[i] (List.getElem_mem hlt)
    have htk : (rs.take (i + 1)).flatMap encR = (rs.take i).flatMap encR ++ encR rs[i] := by rw [List.take_add_one, hx, List.flatMap_append]; simp
    generalize rs[i] = r at *
    have hcell := rs32_get hx
    have hIr := hi.frm hfr
    have he4 := encR_len4 r
    generalize (rs.take i).flatMap encR = S at *
    refine sgo ?_
    refine wlcall (refBytesOf_ok r hgr _) ?_
    rintro v w1 ⟨hf1, q1, c1, rfl, hR1, hq1⟩
    have hfr1 := hfr.trans hf1
    refine wlapp (hR.frm hf1) hR1.sg (fun q' c' w2 hR2 hl2 => ?_) (hl := by simp) (h1 := one_bs _)
    rw [bs_app, ← List.length_append, ← htk] at hR2
    rw [← List.length_append, ← htk]
    refine sgo ?_
    refine ⟨(i + 1, q', c'), ⟨rfl, rfl, rfl, rfl, trivial⟩, ⟨by dsimp only; omega, ?_, hR2, ?_⟩, by dsimp only; omega⟩
    · exact hfr1.step hl2.1 hq
    · exact hl2.fresh hfr1 hq
  · rw [List.take_of_length_le (by omega)] at hR ⊢
    refine sgo ?_
    (first | refine fp1 (.inl rfl) rfl rfl ?_ | refine fp2 (.inl rfl) rfl rfl rfl ?_ | refine fp3 (.inl rfl) rfl rfl rfl rfl ?_ | refine fp0 (.inr rfl) rfl ?_ | refine fp0 (.inl rfl) rfl ?_ | refine fp1 (.inr rfl) rfl rfl ?_)
    exact ⟨hfr, q, cc, rfl, hR, hq⟩

theorem refText_ok (rs : List Nat) (p : Option Addr) (c : Nat) (hb : rs.length ≤ 1073741824) (hg : ∀ r ∈ rs, Good r) (w : World) (hi : Im [] w p (rs32 rs)) :
    PureC Tryd.prog 43 #[.slice p rs.length c] w (str (rs.flatMap encR)) := by
  refine enter (l := [.slice p rs.length c]) Tryd.func43 rfl Tryd.ntmps43 (by kernel_rfl) rfl ?_
  refine sgo ?_
  refine wlcall (refBytes_ok rs p c hb hg w hi) ?_
  rintro v w1 ⟨hf1, q1, c1, rfl, hR1, hq1⟩
  refine wl ?_ (y_b2s rfl hR1.sg)
  refine sgo ?_
  (first | refine fp1 (.inl rfl) rfl rfl ?_ | refine fp2 (.inl rfl) rfl rfl rfl ?_ | refine fp3 (.inl rfl) rfl rfl rfl rfl ?_ | refine fp0 (.inr rfl) rfl ?_ | refine fp0 (.inl rfl) rfl ?_ | refine fp1 (.inr rfl) rfl rfl ?_); refine ⟨?_, by (first | exact Frm.refl _ | assumption | (refine Frm.trans ?_ (by assumption); first | exact Frm.refl _ | assumption))⟩; (try simp only [realB, rv_true, Nat.reduceBEq, cond_true, cond_false, entG, real_lif, updGL])

/-- a new slice of runes -/
def NewR (w : World) (rs : List Nat) (v : Value) (w' : World) : Prop := Frm w w' ∧ ∃ q cc, v = .slice q rs.length cc ∧ Row w' 1 q rs.length cc (rs32 rs) ∧ ∀ x ∈ rb q, w.heap.size ≤ x
set_option maxHeartbeats 2000000 in
theorem refRunes_ok (l : List UInt8) (p : Option Addr) (n c : Nat) (hn : n = l.length) (hc : l.length ≤ c) (hb : l.length ≤ 1073741824) (w : World) (hi : Im [] w p (bs l)) :
    CallsR Tryd.prog 44 #[.slice p n c] w (NewR w (runesN l)) := by
  refine enter (l := [.slice p n c]) Tryd.func44 rfl Tryd.ntmps44 (by kernel_rfl) rfl ?_
  refine sgo ?_
  refine wlcall (pieces_ok l p n c hn hc hb w hi) ?_
  rintro v w1 ⟨hfr, q, cc, rfl, hR, hq⟩
  have hl := piecesF_len l.length 0 l
  change (piecesR l).length ≤ l.length at hl
  have hfl := flatMap_cells_len (piecesR l)
  have hpr := pieces_r l
  have hrl : (runesN l).length = (piecesR l).length := by simp [runesN]
  generalize runesN l = rs at *
  generalize hPs : piecesR l = Ps at *
  refine sgo ?_
  refine wcloop (X := Nat × Option Addr × Nat) (fun x => [(3, .slice x.2.1 x.1 x.2.2), (7, .slice q Ps.length cc), (8, int Ps.length), (9, int x.1)])
    (fun x wr => x.1 ≤ Ps.length ∧ Frm w1 wr ∧ Row wr 1 x.2.1 x.1 x.2.2 (rs32 (rs.take x.1)) ∧ ∀ b ∈ rb x.2.1, w1.heap.size ≤ b)
    (fun x => Ps.length - x.1) (0, none, 0) ⟨rfl, rfl, rfl, rfl, trivial⟩ ⟨by omega, Frm.refl _, Row.nil _ _, rb_nil _⟩ ?_
  rintro ⟨i, q2, c2⟩ wr ρ ⟨hil, hf2, hR2, hq2⟩
  dsimp only at hil hR2 hq2 ⊢
  refine sgo ?_
  (show WC _ _ _ _ _ _ _; first | refine WC_dec rfl (fun hc => ?_) (fun hc => ?_) | refine WC_cond rfl (fun hc => ?_) (fun hc => ?_))
  · have hlt : i < Ps.length := by omega
    have hSg := (hR.frm hf2).sg
    have hx : Ps[i]? = some Ps[i] := List.getElem?_eq_getElem hlt
    have hseg := flatMap_cells_seg Ps i _ hx
    have hri : rs[i]? = some rs[i] := List.getElem?_eq_getElem (by omega)
    have hrr : i32 Ps[i].r = i32 rs[i] := by
      have := congrArg (·[i]?) hpr
      simpa [hx, hri] using this
    have htk : rs32 (rs.take (i + 1)) = rs32 (rs.take i) ++ [i32 rs[i]] := by rw [List.take_add_one, hri]; unfold rs32; rw [List.map_append]; rfl
    generalize Ps[i] = x at *
    generalize rs[i] = r at *
    have hps : ∃ a, q = some a := hSg.some (by omega)
    refine sgo ?_
    refine wlalloc fun b w2 hb1 ho hf3 => ?_
    refine wlstorea0 (hv := by exact ⟨by rw [hseg]; rfl, rfl⟩) (h1 := by rw [hseg]; simp [Piece.cells, Value.oneCell']) ho fun w3 ho3 hl3 => ?_
    rw [hseg] at ho3
    simp only [Piece.cells] at ho3
    rw [hrr] at ho3
    have hb2 : w1.heap.size ≤ b := Nat.le_trans hf2.size hb1
    have hf4 := (hf2.trans hf3).step hl3 (by simpa using hb2)
    have hR3 := (hR2.frm hf3).le hl3 (by intro y hy hm; simp only [List.mem_singleton] at hm; subst hm; have := hR2.lt y hy; omega)
    clear hseg hSg ho
    refine sgo ?_
    refine wlb1_int fun b5 w5 hb5 ho5 hf5 => ?_
    refine wlapp (hR3.frm hf5) ho5.sg (fun q' c' w6 hR6 hl6 => ?_)
    rw [← htk] at hR6
    have hf6 := hf4.trans hf5
    refine sgo ?_
    exact ⟨(i + 1, q', c'), ⟨rfl, rfl, rfl, rfl, trivial⟩, ⟨by dsimp only; omega, hf6.step hl6.1 hq2, hR6, hl6.fresh hf6 hq2⟩, by dsimp only; omega⟩
  · have hii : i = Ps.length := by omega
    have htk : rs.take i = rs := List.take_of_length_le (by omega)
    rw [htk, show i = rs.length by omega] at hR2
    rw [show i = rs.length by omega]
    refine sgo ?_
    (first | refine fp1 (.inl rfl) rfl rfl ?_ | refine fp2 (.inl rfl) rfl rfl rfl ?_ | refine fp3 (.inl rfl) rfl rfl rfl rfl ?_ | refine fp0 (.inr rfl) rfl ?_ | refine fp0 (.inl rfl) rfl ?_ | refine fp1 (.inr rfl) rfl rfl ?_)
    exact ⟨hfr.trans hf2, q2, c2, rfl, hR2, fun x hx => Nat.le_trans hfr.size (hq2 x hx)⟩

theorem refMend_ok (l : List UInt8) (hb : l.length ≤ 1073741824) (w : World) : PureC Tryd.prog 17 #[str l] w (str (mendR l)) := by
  refine enter (l := [str l]) Tryd.func17 rfl Tryd.ntmps17 (by kernel_rfl) rfl ?_
  refine sgo ?_
  refine wls2b rfl (by omega) fun b c w1 hb1 hc1 hc2 hI hf1 => ?_
  refine wlcall (refRunes_ok l _ _ _ rfl hc1 hb _ hI) ?_
  rintro v w2 ⟨hf2, q, cc, rfl, hR, hq⟩
  have hlen := runesN_len l
  refine wlpure (refText_ok (runesN l) q cc (by omega) (runesN_good l) w2 (hR.im (by simp))) fun w3 hf3 => ?_
  have hf := (hf1.trans hf2).trans hf3
  refine sgo ?_
  (first | refine fp1 (.inl rfl) rfl rfl ?_ | refine fp2 (.inl rfl) rfl rfl rfl ?_ | refine fp3 (.inl rfl) rfl rfl rfl rfl ?_ | refine fp0 (.inr rfl) rfl ?_ | refine fp0 (.inl rfl) rfl ?_ | refine fp1 (.inr rfl) rfl rfl ?_); refine ⟨?_, by (first | exact Frm.refl _ | assumption | (refine Frm.trans ?_ (by assumption); first | exact Frm.refl _ | assumption))⟩; (try simp only [realB, rv_true, Nat.reduceBEq, cond_true, cond_false, entG, real_lif, updGL])
  rfl
end Go.Proofs.YtffaoehhhdcjjaaDoor

/-
  Loops over functions; calls of function values.
-/
set_option linter.unusedSimpArgs false
set_option linter.unusedVariables false
set_option linter.unnecessarySimpa false
namespace Go.Sv
open Go Go.RowKit

/-- a loop's record -/
def LoopAt (w : World) (l : Nat) (r : Loop) : Prop := w.heap[l]? = some (.loop r)
theorem LoopAt.lt {w : World} {l : Nat} {r : Loop} (h : LoopAt w l r) : l < w.heap.size := (Array.getElem?_eq_some_iff.1 h).1
theorem LoopAt.le {w w' : World} {M : List Nat} {l : Nat} {r : Loop} (h : LoopAt w l r) (hl : Le M w w') (hm : l ∉ M) : LoopAt w' l r := (hl.block l h.lt hm).trans h
theorem LoopAt.frm {w w' : World} {l : Nat} {r : Loop} (h : LoopAt w l r) (hl : Frm w w') : LoopAt w' l r := h.le (M := []) hl.le (by simp)
/-- the block of a loop's deferred calls: there are none -/
def NoDef (w : World) (D : Nat) : Prop := w.heap[D]? = some (.deferred (some []))
theorem NoDef.lt {w : World} {D : Nat} (h : NoDef w D) : D < w.heap.size := (Array.getElem?_eq_some_iff.1 h).1
theorem NoDef.le {w w' : World} {M : List Nat} {D : Nat} (h : NoDef w D) (hl : Le M w w') (hm : D ∉ M) : NoDef w' D := (hl.block D h.lt hm).trans h
theorem NoDef.frm {w w' : World} {D : Nat} (h : NoDef w D) (hl : Frm w w') : NoDef w' D := h.le (M := []) hl.le (by simp)
theorem le_putObj (w : World) (l : Nat) (o : Obj) : Le [l] w (w.putObj l o) := ⟨rfl, rfl, rfl, by simp, fun k _ hk => World.putObj_heap_other (by simpa using hk)⟩

/-- yield, called with 'args': it answers a bool, and R holds then -/
def Yld (P : Program) (l : Nat) (args : List Value) (w : World) (R : Bool → World → Prop) : Prop :=
  ∃ r, LoopAt w l r ∧ args.toArray.size = r.params.size ∧ RoundIn Fence.wide 0 P l r.fn ((r.params.zip args.toArray).foldl (fun tmps (t, a) => tmps.setIfInBounds t a) r.tmps) r.assign r.body w fun e w' => ∃ b, e = .returned (.bool b) ∧ R b w'
theorem Yld.mono {P : Program} {l : Nat} {args : List Value} {w : World} {R R' : Bool → World → Prop} (h : Yld P l args w R) (hr : ∀ b w', R b w' → R' b w') : Yld P l args w R' := by
  obtain ⟨r, h1, h2, h3⟩ := h
  exact ⟨r, h1, h2, h3.mono fun _ _ ⟨b, he, hb⟩ => ⟨b, he, hr _ _ hb⟩⟩

theorem roundIn_fen {ro : Option Nat} {m n : Nat} {P : Program} {l : Nat} {f : FuncId} {tmps : Array Value} {assign body : Code} {w : World} {R : Ending → World → Prop} (h : RoundIn Fence.wide m P l f tmps assign body w R) : RoundIn (fen ro) n P l f tmps assign body w R := by
  refine ⟨fen_fn ro f, fun c cs _ => ?_⟩
  obtain ⟨e, w', hR, hs⟩ := h.2 c cs (room_wide _)
  cases ro <;> exact ⟨e, w', hR, hs⟩

section
variable {P : Program} {n : Nat} {ds : Ctx} {ops : Array Oper} {Q : Exit → Ctx → Env → World → Prop} {rest : List Oper} {σ : GE} {w : World} {v : Value} {d : Nat} {ty : TypeId} {pos : String} {af : Array Edge} {l : Nat} {xs : List Operand} {ats : Array TypeId} {x : Operand}
theorem run_call_yield {σ : Env} {dd : Option Tmp} {g : Option (Nat × Bool)} {r : Loop} {args : List Value} (hx : evl σ x = .func (.yield l) #[] #[]) (ha : xs.map (evl σ) = args) (hl : LoopAt w l r) (hs : args.toArray.size = r.params.size) :
    (execOp (evl σ) ⟨dd, .call ⟨.value x, xs.toArray, ats⟩, ty, pos, af, g⟩).run P w = .ok (.round l r.fn ((r.params.zip args.toArray).foldl (fun tmps (t, a) => tmps.setIfInBounds t a) r.tmps) r.assign r.body) w := by
  subst ha
  simp only [execOp, resolve, hx, Deferred.ofValue]
  simp only [Sem.run_bind, Sem.run_pure, Result.andThen_ok, invoke]
  have := run_yield (P := P) hl hs
  simpa using this
/-- a call of yield -/
theorem wlyield {args : List Value} {R : Bool → World → Prop} (hy : Yld P l args w R) (h : ∀ b w', R b w' → WL P n ds ops Q rest (real (updG σ d ⟨.bool b, true⟩)) w')
    (hx : evl (real σ) x = .func (.yield l) #[] #[] := by rfl) (ha : xs.map (evl (real σ)) = args := by first | rfl | exact am1 rfl | exact am2 rfl rfl) :
    WL P n ds ops Q (⟨some d, .call ⟨.value x, xs.toArray, ats⟩, ty, pos, af, none⟩ :: rest) (real σ) w := by
  obtain ⟨r, h1, h2, h3⟩ := hy
  refine WL_upon (by simp [Region.wanted]) fun hin K hK _ => ?_
  have hd := operIn_dst hin
  rw [run_call_yield hx ha h1 h2, Oper.uponIn_round]
  refine ⟨fun hx => (by rw [fen_depth] at hx; cases hx), roundIn_fen (m := 0) (h3.mono ?_)⟩
  rintro e w' ⟨b, rfl, hb⟩
  show K _ _
  rw [act_put hd]
  have := h b w' hb
  rw [← real_upd] at this
  exact hK _ _ this
/-- a call of a function value -/
theorem run_call_fv {σ : Env} {dd : Option Tmp} {g : Option (Nat × Bool)} {f : FuncId} [hf : Fnc P f] {first cap args : List Value} (hx : evl σ x = .func (.func f) ⟨first⟩ ⟨cap⟩) (ha : xs.map (evl σ) = args) :
    (execOp (evl σ) ⟨dd, .call ⟨.value x, xs.toArray, ats⟩, ty, pos, af, g⟩).run P w = .ok (.enter f (first ++ args ++ cap).toArray) w := by
  subst ha
  simp only [execOp, resolve, hx, Deferred.ofValue]
  simp only [Sem.run_bind, Sem.run_pure, Result.andThen_ok, invoke]
  have := run_callFunc (P := P) (f := f) (first ++ xs.map (evl σ) ++ cap).toArray w
  simpa using this
theorem wlcallv {f : FuncId} [hf : Fnc P f] {first cap args : List Value} {R : Value → World → Prop} (hc : CallsR P f (first ++ args ++ cap).toArray w R) (h : ∀ v w', R v w' → WL P n ds ops Q rest (real (updG σ d ⟨v, true⟩)) w')
    (hx : evl (real σ) x = .func (.func f) ⟨first⟩ ⟨cap⟩ := by rfl) (ha : xs.map (evl (real σ)) = args := by first | rfl | exact am1 rfl | exact am2 rfl rfl) :
    WL P n ds ops Q (⟨some d, .call ⟨.value x, xs.toArray, ats⟩, ty, pos, af, none⟩ :: rest) (real σ) w :=
  WL_enter (S := fun _ _ => False) (by simp [Region.wanted]) (run_call_fv hx ha) (Calls.mono hc fun _ _ h => .inl h) (fun v w' hR => by have := h v w' hR; rw [← real_upd] at this; exact this) fun _ _ h => h.elim
end

/-! ## the statement -/
/-- what a round leaves of the record -/
def rndP (rec : LoopState → Option Code → Loop) (l : Nat) (R : Bool → World → Prop) : Exit → Ctx → Env → World → Prop
  | .normal, _, _, w => LoopAt w l (rec .busy none) ∧ ∀ w', Le [l] w w' → LoopAt w' l (rec .ready none) → R true w'
  | .ret, _, _, w => LoopAt w l (rec .busy none) ∧ ∀ w', Le [l] w w' → LoopAt w' l (rec .done (some .ret)) → R false w'
  | .exit id, _, _, w => LoopAt w l (rec .busy none) ∧ ∀ w', Le [l] w w' → LoopAt w' l (rec .done (some (.exit id))) → R false w'
  | _, _, _, _ => False
/-- what follows the loop, by what a round left it for -/
def aftP (P : Program) (Q : Exit → Ctx → Env → World → Prop) (c : Ctx) (σ : Env) (w : World) : Option Code → Prop
  | none => Q .normal c σ w
  | some .ret => Q .ret c σ w
  | some (.exit id) => Q (.exit id) c σ w
  | some _ => False
section
variable {P : Program} {n : Nat} {ds : Ctx} {Q : Exit → Ctx → Env → World → Prop} {σ : GE} {w : World} {l D : Nat} {assign body : Code} {ps : List Tmp}
/-- the frame's slots with yield's arguments -/
def updZ (σ : Env) : List Tmp → List Value → Env
  | p :: ps, v :: vs => updZ (upd σ p v) ps vs
  | _, _ => σ
theorem zip_put (dd : List Deferred) : ∀ (ps : List Tmp) (vs : List Value) (σ : Env), ps.all (fun t => Nat.blt t n) = true →
    (ps.toArray.zip vs.toArray).foldl (fun tmps (t, a) => tmps.setIfInBounds t a) (act n dd σ).tmps = (act n dd (updZ σ ps vs)).tmps := by
  intro ps vs σ h
  rw [← Array.foldl_toList]
  have e : (ps.toArray.zip vs.toArray).toList = ps.zip vs := by simp
  rw [e]
  clear e
  induction ps generalizing vs σ with
  | nil => simp [updZ]
  | cons p ps ih =>
    cases vs with
    | nil => simp [updZ]
    | cons v vs =>
      simp only [List.all_cons, Bool.and_eq_true] at h
      simp only [List.zip_cons_cons, List.foldl_cons, updZ]
      have := act_put (ds := dd) (σ := σ) (d := some p) (v := v) (n := n) h.1
      have e2 : (act n dd σ).tmps.setIfInBounds p v = (act n dd (upd σ p v)).tmps := congrArg Act.tmps this
      rw [e2]
      exact ih vs (upd σ p v) h.2
theorem real_updZ : ∀ (ps : List Tmp) (vs : List Value) (σ : GE), ∃ σ' : GE, updZ (real σ) ps vs = real σ'
  | [], _, σ => ⟨σ, rfl⟩
  | _ :: _, [], σ => ⟨σ, rfl⟩
  | p :: ps, v :: vs, σ => by
    have := real_updZ ps vs (updG σ p ⟨v, true⟩)
    simp only [updZ]
    rw [show upd (real σ) p v = real (updG σ p ⟨v, true⟩) from real_upd σ p ⟨v, true⟩]
    exact this
def updZG (σ : GE) : List Tmp → List Value → GE
  | p :: ps, v :: vs => updZG (updG σ p ⟨v, true⟩) ps vs
  | _, _ => σ
theorem updZ_real : ∀ (ps : List Tmp) (vs : List Value) (σ : GE), updZ (real σ) ps vs = real (updZG σ ps vs)
  | [], _, σ => by simp [updZ, updZG]
  | _ :: _, [], σ => by simp [updZ, updZG]
  | p :: ps, v :: vs, σ => by
    simp only [updZ, updZG]
    rw [show upd (real σ) p v = real (updG σ p ⟨v, true⟩) from real_upd σ p ⟨v, true⟩]
    exact updZ_real ps vs _

/-- what the record of a loop is, but for how it stands -/
def recOf (P : Program) (n : Nat) (fn : FuncId) (dd : List Deferred) (σ : GE) (ps : List Tmp) (assign body : Code) (D : Nat) (st : LoopState) (pe : Option Code) : Loop :=
  { state := st, pending := pe, fn, tmps := (act n dd (real σ)).tmps, params := ps.toArray, assign, body, defers := D }
/-- a round, out of its code -/
theorem yld_of {fn : FuncId} {dd : List Deferred} {args : List Value} {R : Bool → World → Prop} (hl : LoopAt w l (recOf P n fn dd σ ps assign body D .ready none)) (hlen : args.length = ps.length) (hin : (ps.all (fun t => Nat.blt t n) && codeIn n true assign && codeIn n true body) = true)
    (h : WC P n ⟨[], some l⟩ assign (fun e c σ' w1 => match e with | .normal => LoopAt w1 l (recOf P n fn dd σ ps assign body D .ready none) ∧ ∀ w2, Le [l] w1 w2 → LoopAt w2 l (recOf P n fn dd σ ps assign body D .busy none) → WC P n c body (rndP (recOf P n fn dd σ ps assign body D) l R) σ' w2 | _ => False) (real (updZG σ ps args)) w) :
    Yld P l args w R := by
  simp only [Bool.and_eq_true] at hin
  obtain ⟨⟨hin1, hin2⟩, hin3⟩ := hin
  refine ⟨_, hl, by simpa [recOf] using hlen, ?_⟩
  have ez := zip_put (n := n) dd ps args (real σ) hin1
  have e0 : (recOf P n fn dd σ ps assign body D .ready none).params = ps.toArray := rfl
  have e1 : (recOf P n fn dd σ ps assign body D .ready none).tmps = (act n dd (real σ)).tmps := rfl
  rw [e0, e1, ez, updZ_real]
  refine roundIn_of_wpIn (F := Fence.wide) (n := 0) trivial ?_
  unfold WC at h
  refine wpIn_mono (h hin2) ?_
  rintro e a1 w1 ⟨d1, σ1, rfl, hq⟩
  cases e <;> try exact hq.elim
  obtain ⟨hl1, hb⟩ := hq
  refine ⟨_, run_beginRound hl1 rfl, ?_⟩
  have hb2 := hb _ (le_putObj w1 l _) (World.putObj_heap_same hl1.lt)
  unfold WC at hb2
  refine wpIn_mono (hb2 hin3) ?_
  rintro e a2 w3 ⟨d2, σ2, rfl, hq⟩
  cases e with
  | normal => exact ⟨_, _, run_endRound none hq.1, _, rfl, hq.2 _ (le_putObj _ _ _) (World.putObj_heap_same hq.1.lt)⟩
  | ret => exact ⟨_, _, run_endRound (some .ret) hq.1, _, rfl, hq.2 _ (le_putObj _ _ _) (World.putObj_heap_same hq.1.lt)⟩
  | exit id => exact ⟨_, _, run_endRound (some (.exit id)) hq.1, _, rfl, hq.2 _ (le_putObj _ _ _) (World.putObj_heap_same hq.1.lt)⟩
  | goto t => exact hq.elim
  | panic ch => exact hq.elim
  | outgrown => exact hq.elim

/-- a loop over a function: an outermost one -/
theorem wcrangef {g : Operand} {gf : FuncId} [hf : Fnc P gf] {cap : List Value} (hg : evl (real σ) g = .func (.func gf) #[] ⟨cap⟩) (hro : ds.ro = none)
    (hcall : ∀ fn l D w1, w.heap.size ≤ D → w.heap.size ≤ l → l ≠ D → Frm w w1 → LoopAt w1 l (recOf P n fn ds.ds σ ps assign body D .ready none) → NoDef w1 D →
      CallsR P gf ((.func (.yield l) #[] #[]) :: cap).toArray w1 fun _ w2 => ∃ st pe, st ≠ .busy ∧ LoopAt w2 l (recOf P n fn ds.ds σ ps assign body D st pe) ∧
        ∀ w3, Le [l] w2 w3 → aftP P Q ⟨{ target := .collected D, args := #[] } :: ds.ds, none⟩ (real σ) w3 pe) :
    WC P n ds (.rangeFunc g ps.toArray assign body) Q (real σ) w := by
  obtain ⟨dd, ro⟩ := ds
  dsimp only at hro hcall
  subst hro
  unfold WC
  intro hin
  simp only [codeIn, Bool.and_eq_true] at hin
  have hgin := hin.1.1.1
  refine wpIn_rangeFunc ?_
  intro fn _
  let w1 := (w.alloc (.deferred (some []))).alloc (.loop (recOf P n fn dd σ ps assign body w.heap.size .ready none))
  have hL : LoopAt w1 (w.heap.size + 1) (recOf P n fn dd σ ps assign body w.heap.size .ready none) := by
    have := World.alloc_heap_new (w.alloc (.deferred (some []))) (.loop (recOf P n fn dd σ ps assign body w.heap.size .ready none))
    rw [World.size_alloc] at this
    exact this
  have hF : Frm w w1 := (frm_alloc w _).trans (frm_alloc _ _)
  have hD : NoDef w1 w.heap.size := by
    have h0 := World.alloc_heap_new w (.deferred (some []))
    exact (Below.heap_alloc (w.alloc (.deferred (some []))) _ w.heap.size (by simp)).trans h0
  have hc := hcall fn (w.heap.size + 1) w.heap.size w1 (Nat.le_refl _) (by omega) (by omega) hF hL hD
  refine ⟨w.heap.size + 1, [{ target := .collected w.heap.size, args := #[] }], w1, { target := .fn (.func gf) ⟨cap⟩, args := #[.func (.yield (w.heap.size + 1)) #[] #[]] }, w1, gf, ((.func (.yield (w.heap.size + 1)) #[] #[]) :: cap).toArray, w1, ?_, ?_, ?_, ?_, ?_, ?_⟩
  · exact run_enterLoop_outer fn _ _ _ _
  · have : (act n dd (real σ)).eval g = .func (.func gf) #[] ⟨cap⟩ := by rw [act_eval hgin, hg]
    simp only [resolve, this, Deferred.ofValue]
    simp [Act.eval]
  · intro f' _; trivial
  · have := run_callFunc (P := P) (f := gf) ((.func (.yield (w.heap.size + 1)) #[] #[]) :: cap).toArray w1
    simpa [invoke] using this
  · intro h; simp [fen, Fence.wide] at h
  · refine callsIn_wide.2 (Calls.mono hc ?_)
    rintro e w2 ⟨v, rfl, st, pe, hst, hl2, hq⟩
    refine ⟨pe, _, run_endLoop hl2 hst, ?_⟩
    have hq2 := hq _ (le_putObj w2 (w.heap.size + 1) (.loop { (recOf P n fn dd σ ps assign body w.heap.size st pe) with state := .exhausted }))
    cases pe with
    | none => exact ⟨_, _, rfl, hq2⟩
    | some c =>
      cases c <;> try exact hq2.elim
      · exact wpIn_exit ⟨_, _, rfl, hq2⟩
      · exact wpIn_ret ⟨_, _, rfl, hq2⟩
end
section
variable {P : Program} {Q : Exit → Ctx → Env → World → Prop} {c : Ctx} {σ : Env} {w : World} {rec : LoopState → Option Code → Loop} {l : Nat} {R : Bool → World → Prop} {i : Nat}
theorem rnd_normal (hl : LoopAt w l (rec .busy none)) (h : ∀ w', Le [l] w w' → LoopAt w' l (rec .ready none) → R true w') : rndP rec l R .normal c σ w := ⟨hl, h⟩
theorem rnd_ret (hl : LoopAt w l (rec .busy none)) (h : ∀ w', Le [l] w w' → LoopAt w' l (rec .done (some .ret)) → R false w') : rndP rec l R .ret c σ w := ⟨hl, h⟩
theorem rnd_exit (hl : LoopAt w l (rec .busy none)) (h : ∀ w', Le [l] w w' → LoopAt w' l (rec .done (some (.exit i))) → R false w') : rndP rec l R (.exit i) c σ w := ⟨hl, h⟩
theorem aft_none (h : Q .normal c σ w) : aftP P Q c σ w none := h
theorem aft_ret (h : Q .ret c σ w) : aftP P Q c σ w (some .ret) := h
theorem aft_exit (h : Q (.exit i) c σ w) : aftP P Q c σ w (some (.exit i)) := h
end
attribute [irreducible] rndP aftP
end Go.Sv

/-
  Package utf: All, Runes.
-/
set_option linter.unusedSimpArgs false
set_option linter.unusedVariables false
set_option linter.unnecessarySimpa false
namespace Go.Proofs.YtffaoehhhdcjjaaDoor
open Go Go.Sv Go.RowKit

/-- what All answers -/
def AllV (w : World) (l : List UInt8) (v : Value) (w' : World) : Prop :=
  Frm w w' ∧ ∃ b q c, v = .func (.func 119) #[] #[ptrAt (pb b) 0] ∧ Own w' b [.slice q l.length c] ∧ Im [] w' q (bs l) ∧ l.length ≤ c ∧ w.heap.size ≤ b ∧ ∀ x ∈ rb q, w.heap.size ≤ x
theorem all_ok (l : List UInt8) (p : Option Addr) (n c : Nat) (hn : n = l.length) (hb : l.length ≤ 1073741824) (w : World) (hi : Im [] w p (bs l)) : CallsR Tryd.prog 99 #[.slice p n c] w (AllV w l) := by
  subst hn
  refine enter (l := [.slice p l.length c]) Tryd.func99 rfl Tryd.ntmps99 (by kernel_rfl) rfl ?_
  refine sgo ?_
  refine wlbox (v := .slice p l.length c) (hx := rfl) fun b w1 hb1 ho hf1 => ?_
  have ho1 : Own w1 b [.slice p l.length c] := ho
  refine sgo ?_
  refine wlapp (Row.nil w1 1) (hi.frm hf1).sg (fun q c2 w2 hR hl => ?_) (hl := by simp) (h1 := one_bs _)
  simp only [Nat.zero_add, List.nil_append] at hR ⊢
  have ho2 := ho1.le hl.1 (by simp [rb])
  have hq : ∀ x ∈ rb q, w1.heap.size ≤ x := fun x hx => by
    rcases Nat.lt_or_ge x w1.heap.size with h | h
    · have := hl.2 x hx h; simp [rb] at this
    · exact h
  have hbq : ∀ x ∈ rb q, x ∉ [b] := by
    intro x hx hm
    simp only [List.mem_singleton] at hm
    subst hm
    have := hq x hx
    have := ho1.lt
    omega
  refine wlst_slice ho2 fun w3 ho3 hl3 => ?_
  refine sgo ?_
  (first | refine fp1 (.inl rfl) rfl rfl ?_ | refine fp2 (.inl rfl) rfl rfl rfl ?_ | refine fp3 (.inl rfl) rfl rfl rfl rfl ?_ | refine fp0 (.inr rfl) rfl ?_ | refine fp0 (.inl rfl) rfl ?_ | refine fp1 (.inr rfl) rfl rfl ?_)
  have hf2 : Frm w w2 := hf1.step hl.1 (by simp [rb])
  refine ⟨hf2.step hl3 (by simpa using hb1), b, q, c2, ?_, ho3, (hR.le hl3 hbq).im (by simp), hR.le_cap.1, hb1, fun x hx => Nat.le_trans hf1.size (hq x hx)⟩
  rfl

set_option maxHeartbeats 1000000 in
/-- the iterator, over whatever a round does -/
theorem all1_ok (lr b : Nat) (l : List UInt8) (q : Option Addr) (c : Nat) (hc : l.length ≤ c) (hb : l.length ≤ 1073741824) (J Jx : Nat → World → Prop)
    (hres : ∀ i w, J i w → Own w b [.slice q l.length c] ∧ Im [] w q (bs l)) (hfr : ∀ i w w', J i w → Frm w w' → J i w')
    (hY : ∀ i w, J i w → i < l.length → Yld Tryd.prog lr [int i, i32 (pieceR (l.drop i)).1] w fun bb w' => if bb then J (i + (pieceR (l.drop i)).2.1) w' else Jx i w')
    (w : World) (h0 : J 0 w) :
    CallsR Tryd.prog 119 #[.func (.yield lr) #[] #[], ptrAt (pb b) 0] w fun _ w' => J l.length w' ∨ ∃ i, i < l.length ∧ Jx i w' := by
  refine enter (l := [.func (.yield lr) #[] #[], ptrAt (pb b) 0]) Tryd.func119 rfl Tryd.ntmps119 (by kernel_rfl) rfl ?_
  refine sgo ?_
  refine wcloop (X := Nat) (fun i => [(0, .func (.yield lr) #[] #[]), (1, ptrAt (pb b) 0), (3, int i)])
    (fun i wr => i ≤ l.length ∧ J i wr) (fun i => l.length - i) 0 ⟨rfl, rfl, rfl, trivial⟩ ⟨by omega, h0⟩ ?_
  rintro i wr ρ ⟨hil, hJ⟩
  obtain ⟨ho, hi⟩ := hres i wr hJ
  refine sgo ?_
  (show WC _ _ _ _ _ _ _; first | refine WC_dec rfl (fun hc => ?_) (fun hc => ?_) | refine WC_cond rfl (fun hc => ?_) (fun hc => ?_))
  · have hlt : i < l.length := by omega
    have hpr := pieceR_rng (l.drop i) (by simp; omega)
    have hrd := readS_piece (l.drop i) (by simp; omega)
    have hdl : (l.drop i).length = l.length - i := by simp
    have hp := hi.part1 (c := c) (i' := i) (by intro h; omega)
    rw [bs_drop] at hp
    have hy := fun w hJ => hY i w hJ hlt
    refine sgo ?_
    refine wlpure (read_any (l.drop i) _ _ _ (by simp) (by omega) (by omega) (by omega) [] _ hp) fun w1 hf1 => ?_
    have hJ1 := hfr _ _ _ hJ hf1
    rw [hrd]
    dsimp only
    generalize (pieceR (l.drop i)).1 = r at *
    generalize (pieceR (l.drop i)).2.1 = m at *
    refine sgo ?_
    refine wlyield (hy w1 hJ1) fun bb w2 h2 => ?_
    cases bb
    · refine sgo ?_
      (first | refine fp1 (.inl rfl) rfl rfl ?_ | refine fp2 (.inl rfl) rfl rfl rfl ?_ | refine fp3 (.inl rfl) rfl rfl rfl rfl ?_ | refine fp0 (.inr rfl) rfl ?_ | refine fp0 (.inl rfl) rfl ?_ | refine fp1 (.inr rfl) rfl rfl ?_)
      exact .inr ⟨i, hlt, h2⟩
    · refine sgo ?_
      exact ⟨i + m, ⟨rfl, rfl, rfl, trivial⟩, ⟨by omega, h2⟩, by omega⟩
  · refine sgo ?_
    (first | refine fp1 (.inl rfl) rfl rfl ?_ | refine fp2 (.inl rfl) rfl rfl rfl ?_ | refine fp3 (.inl rfl) rfl rfl rfl rfl ?_ | refine fp0 (.inr rfl) rfl ?_ | refine fp0 (.inl rfl) rfl ?_ | refine fp1 (.inr rfl) rfl rfl ?_)
    rw [show i = l.length by omega] at hJ
    exact .inl hJ
end Go.Proofs.YtffaoehhhdcjjaaDoor

/-
  Package utf: Runes, Mend.
-/
set_option linter.unusedSimpArgs false
set_option linter.unusedVariables false
set_option linter.unnecessarySimpa false
namespace Go.Proofs.YtffaoehhhdcjjaaDoor
open Go Go.Sv Go.RowKit

theorem Row.cells_at {w : World} {size n c : Nat} {q : Option Addr} {xs : List Value} (h : Row w size q n c xs) : ∀ x ∈ rb q, ∃ cur e, w.heap[x]? = some (.cells cur e (0, 0)) := by
  rcases h.2 with ⟨rfl, _⟩ | ⟨b, off, cur, e, rfl, h1, _⟩
  · simp [rb]
  · intro x hx
    simp only [rb, List.mem_singleton] at hx
    subst hx
    exact ⟨cur, e, h1⟩

theorem Im.only {w : World} {p : Option Addr} {l : List Value} {M : List Nat} (h : Im [] w p l) (hM : ∀ b ∈ rb p, b < w.heap.size → b ∉ M) : Im M w p l := by
  rcases h with h | ⟨a, rfl, h1, h2, _⟩
  · exact .inl h
  · exact .inr ⟨a, rfl, h1, h2, hM _ (by simp [rb]) h2⟩

set_option maxHeartbeats 2000000 in
theorem runes_ok (l : List UInt8) (p : Option Addr) (n c : Nat) (hn : n = l.length) (hb : l.length ≤ 1073741824) (w : World) (hi : Im [] w p (bs l)) : CallsR Tryd.prog 71 #[.slice p n c] w (NewR w (runesN l)) := by
  refine enter (l := [.slice p n c]) Tryd.func71 rfl Tryd.ntmps71 (by kernel_rfl) rfl ?_
  refine sgo ?_
  refine wlalloc fun b3 w1 hb3 ho3 hf1 => ?_
  have hb31 := ho3.lt
  refine sgo ?_
  refine wlcall (all_ok l p n c hn hb w1 (hi.frm hf1)) ?_
  rintro v w2 ⟨hf2, b, q, c2, rfl, ho, hI, hc2, hbb, hqq⟩
  replace ho3 := ho3.frm hf2
  have hfw := hf1.trans hf2
  have hb32 := ho3.lt
  have hb2 := ho.lt
  refine sgo ?_
  refine wcrangef (cap := [ptrAt (pb b) 0]) rfl rfl ?_
  intro fn lr D w3 hD hlr hne hf3 hL hN
  replace ho3 := ho3.frm hf3
  replace ho := ho.frm hf3
  have hI2 : Im [b3, lr] w2 q (bs l) := Im.only hI (by
    intro x hx hlt hm
    have := hqq x hx
    rcases List.mem_cons.1 hm with rfl | hm
    · omega
    · simp only [List.mem_singleton] at hm; omega)
  replace hI := hI2.frm hf3
  have hfw3 := hfw.trans hf3
  have hlr3 := hL.lt
  have hD3 := hN.lt
  have hs23 := hf3.size
  refine CallsR.mono (all1_ok lr b l q c2 hc2 hb
    (fun i w' => i ≤ l.length ∧ ∃ rs q3 c3, runesN l = rs ++ runesN (l.drop i) ∧ Le [b3, lr] w3 w' ∧ Own w' b3 [.slice q3 rs.length c3] ∧ Row w' 1 q3 rs.length c3 (rs32 rs) ∧ (∀ x ∈ rb q3, w3.heap.size ≤ x) ∧ w'.heap[lr]? = w3.heap[lr]?)
    (fun _ _ => False) ?_ ?_ ?_ w3 ⟨by omega, [], none, 0, by simp, Le.refl _ _, ho3, Row.nil _ _, rb_nil _, rfl⟩) ?_
  · rintro i w' ⟨_, rs, q3, c3, _, hle, _⟩
    refine ⟨ho.le hle ?_, (hI.le hle).weak (by simp)⟩
    intro hm
    rcases List.mem_cons.1 hm with rfl | hm
    · omega
    · simp only [List.mem_singleton] at hm; omega
  · rintro i w' w'' ⟨h1, rs, q3, c3, h2, h3, h4, h5, h6, h7⟩ hf
    exact ⟨h1, rs, q3, c3, h2, h3.trans hf.le, h4.frm hf, h5.frm hf, h6, (hf.block lr (Nat.lt_of_lt_of_le hlr3 h3.size)).trans h7⟩
  · rintro i w' ⟨h1, rs, q3, c3, h2, h3, h4, h5, h6, h7⟩ hlt
    have hLw := h7.trans hL
    have hpos : 0 < (l.drop i).length := by simp; omega
    obtain ⟨r, hr, hg⟩ := pieceR_good (l.drop i) hpos
    have hrc := runesN_cons (l.drop i) hpos
    rw [List.drop_drop] at hrc
    have hpr := pieceR_rng (l.drop i) hpos
    have hdl : (l.drop i).length = l.length - i := by simp
    rw [hr] at hrc ⊢
    rw [Int.toNat_natCast] at hrc
    generalize (pieceR (l.drop i)).2.1 = m at *
    have hrl := runesN_len l
    have hrs : rs.length ≤ 1073741824 := by rw [h2, List.length_append] at hrl; omega
    have h3s := h3.size
    refine yld_of hLw rfl (by kernel_rfl) ?_
    refine sgo ?_
    refine ⟨hLw, fun w5 hl5 hL5 => ?_⟩
    have ho5 := h4.le hl5 (by simp; omega)
    have hR5 := h5.le hl5 (by intro x hx hm; simp only [List.mem_singleton] at hm; subst hm; have := h6 x hx; omega)
    refine sgo ?_
    refine wlb1_int fun b6 w6 hb6 ho6 hf6 => ?_
    refine wlapp (hR5.frm hf6) ho6.sg (fun q' c' w7 hR7 hl7 => ?_)
    have ho7 := (ho5.frm hf6).le hl7.1 (by intro hm; have := h6 _ hm; omega)
    have hL7 : LoopAt w7 lr _ := (hL5.frm hf6).le hl7.1 (by intro hm; have := h6 _ hm; omega)
    have hq7 : ∀ x ∈ rb q', w3.heap.size ≤ x := by
      intro x hx
      rcases Nat.lt_or_ge x w6.heap.size with h | h
      · exact h6 x (hl7.2 x hx h)
      · have := hf6.size; have := hl5.size; omega
    refine wlst_slice ho7 fun w8 ho8 hl8 => ?_
    have hR8 := hR7.le hl8 (by intro x hx hm; simp only [List.mem_singleton] at hm; subst hm; have := hq7 x hx; omega)
    have hL8 := hL7.le hl8 (by simp; omega)
    refine sgo ?_
    refine rnd_normal hL8 fun w9 hl9 hL9 => ?_
    have e1 : rs32 rs ++ [i32 r] = rs32 (rs ++ [r]) := by simp [rs32]
    have e2 : rs.length + 1 = (rs ++ [r]).length := by simp
    rw [e1, e2] at hR8
    have hle9 : Le [b3, lr] w3 w9 := by
      refine ⟨hl9.os.trans (hl8.os.trans (hl7.1.os.trans (hf6.os.trans (hl5.os.trans h3.os)))), hl9.tape.trans (hl8.tape.trans (hl7.1.tape.trans (hf6.tape.trans (hl5.tape.trans h3.tape)))), hl9.output.trans (hl8.output.trans (hl7.1.output.trans (hf6.output.trans (hl5.output.trans h3.output)))), ?_, fun k hk hm => ?_⟩
      · have := hl9.size; have := hl8.size; have := hl7.1.size; have := hf6.size; have := hl5.size; omega
      · have a3 := h3.block k hk hm
        simp only [List.mem_cons, List.not_mem_nil, or_false, not_or] at hm
        have a5 := hl5.block k (by omega) (by simpa using hm.2)
        have s5 := hl5.size
        have a6 := hf6.block k (by omega)
        have s6 := hf6.size
        have a7 := hl7.1.block k (by omega) (by intro h; have := h6 k h; omega)
        have s7 := hl7.1.size
        have a8 := hl8.block k (by omega) (by simpa using hm.1)
        have s8 := hl8.size
        have a9 := hl9.block k (by omega) (by simpa using hm.2)
        rw [a9, a8, a7, a6, a5, a3]
    refine ⟨by omega, rs ++ [r], q', c', by rw [h2, hrc]; simp, hle9, ?_, hR8.le hl9 (by intro x hx hm; simp only [List.mem_singleton] at hm; subst hm; have := hq7 x hx; omega), hq7, ?_⟩
    · rw [← e2]
      exact ho8.le hl9 (by simp; omega)
    · exact hL9.trans hL.symm
  · rintro v w4 hor
    obtain ⟨_, rs, q3, c3, h2, h3, h4, h5, h6, h7⟩ := hor.resolve_right fun ⟨_, _, h⟩ => h
    rw [List.drop_length, runesN_nil, List.append_nil] at h2
    refine ⟨.ready, none, by simp, h7.trans hL, fun w5 hl5 => aft_none ?_⟩
    have ho5 := h4.le hl5 (by simp; omega)
    have hR5 := h5.le hl5 (by intro x hx hm; simp only [List.mem_singleton] at hm; subst hm; have := h6 x hx; omega)
    have hN5 := (hN.le h3 (by simp; omega)).le hl5 (by simp; omega)
    refine sgo ?_
    refine fp_mark (.inl rfl) hN5 ?_
    (first | refine fp1 (.inl rfl) rfl rfl ?_ | refine fp2 (.inl rfl) rfl rfl rfl ?_ | refine fp3 (.inl rfl) rfl rfl rfl rfl ?_ | refine fp0 (.inr rfl) rfl ?_ | refine fp0 (.inl rfl) rfl ?_ | refine fp1 (.inr rfl) rfl rfl ?_)
    have hlD := le_putObj w5 D (.deferred none)
    have hfw4 := hfw3.step h3 (by intro x hx; simp only [List.mem_cons, List.not_mem_nil, or_false] at hx; have := hfw.size; omega)
    have hfw5 := hfw4.step hl5 (by intro x hx; simp only [List.mem_singleton] at hx; have := hfw.size; omega)
    refine ⟨hfw5.step hlD (by intro x hx; simp only [List.mem_singleton] at hx; have := hfw.size; omega), q3, c3, ?_, ?_, fun x hx => Nat.le_trans hfw3.size (h6 x hx)⟩
    · rw [h2]; rfl
    · rw [h2]
      exact hR5.le hlD (by intro x hx hm; simp only [List.mem_singleton] at hm; subst hm; have := h6 x hx; omega)
end Go.Proofs.YtffaoehhhdcjjaaDoor

/-
  Package utf: Mend.
-/
set_option linter.unusedSimpArgs false
set_option linter.unusedVariables false
set_option linter.unnecessarySimpa false
namespace Go.Proofs.YtffaoehhhdcjjaaDoor
open Go Go.Sv Go.RowKit

theorem sec_true (c d : Nat) (h : 128 ≤ d ∧ d ≤ 191 ∧ (c = 224 → 160 ≤ d) ∧ (c = 237 → d ≤ 159) ∧ (c = 240 → 144 ≤ d) ∧ (c = 244 → d ≤ 143)) : secondR c d = true := by
  unfold secondR
  repeat' split
  all_goals simp only [Bool.and_eq_true, decide_eq_true_eq]
  all_goals omega
theorem right1 (l : List UInt8) (h : at0 l 0 < 128) : (pieceR l).2.2 = true := by
  have hs : sizeR (at0 l 0) = 1 := by unfold sizeR; rw [if_pos (by omega)]
  show (goodR l).2 = true
  simp [goodR, hs, goodF]
theorem right2 (l : List UInt8) (hl : 1 < l.length) (h : 194 ≤ at0 l 0 ∧ at0 l 0 ≤ 223 ∧ 128 ≤ at0 l 1 ∧ at0 l 1 ≤ 191) : (pieceR l).2.2 = true := by
  have hs : sizeR (at0 l 0) = 2 := by unfold sizeR; rw [if_neg (by omega), if_pos (by omega)]
  have h2 := sec_true (at0 l 0) (at0 l 1) (by omega)
  show (goodR l).2 = true
  simp [goodR, hs, goodF, hl, h2]
theorem right3 (l : List UInt8) (hl : 2 < l.length) (h : 224 ≤ at0 l 0 ∧ at0 l 0 ≤ 239 ∧ 128 ≤ at0 l 1 ∧ at0 l 1 ≤ 191 ∧ (at0 l 0 = 224 → 160 ≤ at0 l 1) ∧ (at0 l 0 = 237 → at0 l 1 ≤ 159) ∧ 128 ≤ at0 l 2 ∧ at0 l 2 ≤ 191) : (pieceR l).2.2 = true := by
  have hs : sizeR (at0 l 0) = 3 := by unfold sizeR; rw [if_neg (by omega), if_neg (by omega), if_pos (by omega)]
  have h2 := sec_true (at0 l 0) (at0 l 1) (by omega)
  have h3 : ¬ (at0 l 2 < 128 ∨ 191 < at0 l 2) := by omega
  show (goodR l).2 = true
  simp [goodR, hs, goodF, hl, h2, h3, show 1 < l.length by omega]
  try omega
theorem right4 (l : List UInt8) (hl : 3 < l.length) (h : 240 ≤ at0 l 0 ∧ at0 l 0 ≤ 244 ∧ 128 ≤ at0 l 1 ∧ at0 l 1 ≤ 191 ∧ (at0 l 0 = 240 → 144 ≤ at0 l 1) ∧ (at0 l 0 = 244 → at0 l 1 ≤ 143) ∧ 128 ≤ at0 l 2 ∧ at0 l 2 ≤ 191 ∧ 128 ≤ at0 l 3 ∧ at0 l 3 ≤ 191) : (pieceR l).2.2 = true := by
  have hs : sizeR (at0 l 0) = 4 := by unfold sizeR; rw [if_neg (by omega), if_neg (by omega), if_neg (by omega), if_pos (by omega)]
  have h2 := sec_true (at0 l 0) (at0 l 1) (by omega)
  have h3 : ¬ (at0 l 2 < 128 ∨ 191 < at0 l 2) := by omega
  have h4 : ¬ (at0 l 3 < 128 ∨ 191 < at0 l 3) := by omega
  show (goodR l).2 = true
  simp [goodR, hs, goodF, hl, h2, h3, h4, show 1 < l.length by omega, show 2 < l.length by omega]
  try omega
theorem decode_wrong (l : List UInt8) (i : Nat) (hw : (pieceR (l.drop i)).2.2 = false) : Utf8.decode ⟨l.toArray⟩ i = (65533, 1) := by
  have hd : ∀ k, (k < (l.drop i).length) = (i + k < l.length) := fun k => by simp; omega
  have no : ∀ {p : Prop}, (p → (pieceR (l.drop i)).2.2 = true) → ¬ p := fun h hp => by rw [h hp] at hw; cases hw
  have r1 := no (right1 (l.drop i))
  have r2 := no (fun h : _ ∧ _ => right2 (l.drop i) h.1 h.2)
  have r3 := no (fun h : _ ∧ _ => right3 (l.drop i) h.1 h.2)
  have r4 := no (fun h : _ ∧ _ => right4 (l.drop i) h.1 h.2)
  rw [hd] at r2 r3 r4
  unfold Utf8.decode
  simp only [get_at0, size_str]
  have hb0 := at0_lt (l.drop i) 0
  have hb1 := at0_lt (l.drop i) 1
  have hb2 := at0_lt (l.drop i) 2
  have hb3 := at0_lt (l.drop i) 3
  clear hd no hw
  generalize at0 (l.drop i) 0 = b0 at *
  generalize at0 (l.drop i) 1 = b1 at *
  generalize at0 (l.drop i) 2 = b2 at *
  generalize at0 (l.drop i) 3 = b3 at *
  rw [if_neg r1]
  split
  · rename_i h
    simp only [Bool.and_eq_true, beq_iff_eq, decide_eq_true_eq] at h
    rw [if_neg (by omega)]; rfl
  split
  · rename_i h
    simp only [Bool.and_eq_true, beq_iff_eq, decide_eq_true_eq] at h
    rw [if_neg]
    · rfl
    · simp only [Utf8.valid, Bool.and_eq_true, Bool.or_eq_true, decide_eq_true_eq]
      omega
  split
  · rename_i h
    simp only [Bool.and_eq_true, beq_iff_eq, decide_eq_true_eq] at h
    rw [if_neg]
    · rfl
    · simp only [Utf8.valid, Bool.and_eq_true, Bool.or_eq_true, decide_eq_true_eq]
      omega
  · rfl
theorem valid_back (l : List UInt8) (h0 : 0 < l.length) (hr : (pieceR l).2.2 = true) (h : validR (l.drop (pieceR l).2.1) = true) : validR l = true := by
  have hp := readS_piece l h0
  have hv := validS_cons l h0
  have hw := (whatR_zero l).2 hr
  rw [valid_eq, valid_eq, hp] at hv
  dsimp only at hv
  rw [if_neg (by simpa using hw)] at hv
  rw [hv]; exact h
/-- the bytes of U+FFFD are right -/
theorem fffd_right (l : List UInt8) (h : l.take 3 = [239, 191, 189]) : (pieceR l).2.2 = true := by
  match l, h with
  | a :: b :: c :: l', h =>
    simp only [List.take_succ_cons, List.take_zero, List.cons.injEq, and_true] at h
    obtain ⟨rfl, rfl, rfl⟩ := h
    have e0 : at0 (239 :: 191 :: 189 :: l') 0 = 239 := rfl
    have e1 : at0 (239 :: 191 :: 189 :: l') 1 = 191 := rfl
    have e2 : at0 (239 :: 191 :: 189 :: l') 2 = 189 := rfl
    exact right3 _ (by simp) (by omega)

/-! ## runes and texts -/
theorem encode_good {r : Nat} (hg : Good r) : Utf8.encode (r : Int) = ⟨(encR r).toArray⟩ := by
  have hv : Utf8.valid (r : Int) = true := by
    unfold Good at hg
    simp only [Utf8.valid, Bool.and_eq_true, Bool.or_eq_true, decide_eq_true_eq]
    omega
  unfold Utf8.encode
  rw [if_pos hv]
  simp only [Int.toNat_natCast]
  unfold encR encN
  split
  · rfl
  · split
    · rfl
    · split
      · rfl
      · rfl
theorem runesBytes_good : ∀ (rs : List Nat) (acc : List UInt8), (∀ r ∈ rs, Good r) → (rs.map fun n : Nat => (n : Int)).foldl (fun r n => r ++ Utf8.encode n) ⟨acc.toArray⟩ = ⟨(acc ++ rs.flatMap encR).toArray⟩
  | [], acc, _ => by simp
  | r :: rs, acc, h => by
    simp only [List.map_cons, List.foldl_cons, List.flatMap_cons]
    rw [encode_good (h r List.mem_cons_self)]
    have e : (ByteArray.mk acc.toArray ++ ByteArray.mk (encR r).toArray) = ⟨(acc ++ encR r).toArray⟩ := by
      apply ByteArray.ext
      simp
    rw [e, runesBytes_good rs (acc ++ encR r) fun x hx => h x (List.mem_cons_of_mem _ hx), List.append_assoc]
section
variable {P : Program} {w : World} {ty t t' e : TypeId} {pos : String} {af : Array Edge} {x : Operand} {p : Option Addr} {c : Nat}
theorem y_r2s {σ : Env} {d : Option Tmp} {g : Option (Nat × Bool)} {rs : List Nat} [hu : Und P t (.slice e)] [hu' : Und P t' .string] [he : Und P e (.int .i32)] (hg : ∀ r ∈ rs, Good r) (hs : Sg w p (rs32 rs)) (hx : evl σ x = .slice p rs.length c) :
    Y P σ ⟨d, .convert t t' x, ty, pos, af, g⟩ w (str (rs.flatMap encR)) w := by
  refine Y.val ?_
  simp only [execOp, hx]
  rw [Sem.run_bind]
  have e0 : (ByteArray.empty : ByteArray) = ⟨([] : List UInt8).toArray⟩ := rfl
  rcases hs with h0 | ⟨a, rfl, h1⟩
  · have hs0 : rs = [] := by simpa [rs32] using h0
    subst hs0
    cases p with
    | none => rw [run_convert_runes_nil w t t' e _ _ hu.ok he.ok hu'.ok]; rfl
    | some a =>
      rw [run_convert_runes w t t' e a _ _ [] (by simp) hu.ok he.ok hu'.ok (by simp)]
      rfl
  · have hc := run_convert_runes (P := P) w t t' e a rs.length c (rs.map fun n : Nat => (n : Int)) (by simp) hu.ok he.ok hu'.ok (fun j hj => by
      have hj' : j < rs.length := by simpa using hj
      rw [h1 j (by simpa [rs32] using hj')]
      simp [rs32, hj', List.getD])
    rw [hc]
    have e1 : (rs.map fun n : Nat => (n : Int)).take rs.length = rs.map fun n : Nat => (n : Int) := List.take_of_length_le (by simp)
    rw [e1]
    have := runesBytes_good rs [] hg
    unfold runesBytes
    rw [e0, this]
    rfl
end
/-- the runes of a right text, as the language has them -/
theorem runesFrom_valid (l : List UInt8) : ∀ (k i : Nat) (acc : Array Value), l.length ≤ i + k → i ≤ l.length → validR (l.drop i) = true → Conv.runesFrom ⟨l.toArray⟩ k i acc = acc ++ (rs32 (runesN (l.drop i))).toArray
  | 0, i, acc, h1, h2, _ => by
    have : l.drop i = [] := List.drop_eq_nil_of_le (by omega)
    rw [this]
    simp [Conv.runesFrom, runesN_nil, rs32]
  | k + 1, i, acc, h1, h2, hv => by
    unfold Conv.runesFrom
    rw [size_str]
    by_cases hi : i < l.length
    · have hpos : 0 < (l.drop i).length := by simp; omega
      obtain ⟨hr, hv2⟩ := valid_step (l.drop i) hpos hv
      have hpr := pieceR_rng (l.drop i) hpos
      have hdl : (l.drop i).length = l.length - i := by simp
      rw [if_pos hi]
      simp only [decode_right l i hr]
      rw [List.drop_drop] at hv2
      rw [runesFrom_valid l k _ _ (by omega) (by omega) hv2, runesN_cons (l.drop i) hpos, List.drop_drop]
      simp [rs32]
    · have : l.drop i = [] := List.drop_eq_nil_of_le (by omega)
      rw [if_neg hi, this]
      simp [runesN_nil, rs32]
section
variable {P : Program} {n : Nat} {ds : Ctx} {ops : Array Oper} {Q : Exit → Ctx → Env → World → Prop} {rest : List Oper} {σ : GE} {w : World} {d : Nat} {ty t t' e : TypeId} {pos : String} {af : Array Edge} {x : Operand}
/-- []rune(s), of a right text -/
theorem wls2r [hu : Und P t .string] [hu' : Und P t' (.slice e)] [he : Und P e (.int .i32)] {s : List UInt8} (hv : validR s = true) (hs : s.length ≤ 4611686018427387904)
    (h : ∀ b c w', w.heap.size ≤ b → Row w' 1 (pb b) (runesN s).length c (rs32 (runesN s)) → Frm w w' → WL P n ds ops Q rest (real (updG σ d ⟨.slice (pb b) (runesN s).length c, true⟩)) w') (hx : evl (real σ) x = str s := by rfl) :
    WL P n ds ops Q (⟨some d, .convert t t' x, ty, pos, af, none⟩ :: rest) (real σ) w := by
  have hel : Conv.runesFrom ⟨s.toArray⟩ s.length 0 #[] = (rs32 (runesN s)).toArray := by
    have := runesFrom_valid s s.length 0 #[] (by omega) (by omega) (by simpa using hv)
    simpa using this
  have hlen : (rs32 (runesN s)).length = (runesN s).length := by simp [rs32]
  have hrl := runesN_len s
  let c := grownCap w (runesN s).length 0 e
  let C : Array Value := (rs32 (runesN s)).toArray ++ Array.replicate (c - (runesN s).length) (.int .i32 0)
  have hge : (runesN s).length ≤ c := grownCap_ge w _ 0 e
  have hcm : c ≤ maxLen := grownCap_le_maxLen w _ 0 e (by unfold maxLen; omega)
  have hsz : C.size = c := by simp [C, hlen]; omega
  refine wl (h w.heap.size c (w.drew.alloc (.cells C e)) (Nat.le_refl _) ?_ ((frm_drew w).trans (frm_alloc w.drew _))) (Y.val ?_)
  · refine ⟨by rw [hlen]; omega, .inr ⟨w.heap.size, 0, C, e, rfl, heap_alloc_new w.drew _, hge, by unfold maxLen at hcm; omega, by omega, ?_⟩⟩
    simp only [List.drop_zero, Nat.mul_one, C, Array.toList_append]
    rw [← hlen]
    exact List.take_left
  · have e1 : (ByteArray.mk s.toArray).size = s.length := size_str s
    simp only [execOp, hx, convert, underlying, Sem.run_bind, run_program, Result.andThen_ok, hu.ok, hu'.ok, he.ok, Sem.run_pure, Conv.stringToRunes, e1, hel, run_choose, Question.forced, newRow, run_newObj]
    simp only [List.size_toArray, hlen]
    rfl
end

set_option maxHeartbeats 2000000 in
theorem mend_ok (l : List UInt8) (hb : l.length ≤ 1073741824) (w : World) : PureC Tryd.prog 35 #[str l] w (str (mendR l)) := by
  refine enter (l := [str l]) Tryd.func35 rfl Tryd.ntmps35 (by kernel_rfl) rfl ?_
  refine sgo ?_
  refine wlrange fun r w1 hr1 hI1 hf1 => ?_
  refine sgo ?_
  refine wcloop (X := Nat × Bool) (fun x => [(0, str l), (3, .bool x.2), (7, .pointer (pb r))])
    (fun x wr => x.1 ≤ l.length ∧ It wr r l x.1 ∧ Frm w wr ∧ (x.2 = true → validR (l.drop x.1) = true → validR l = true)) (fun x => l.length - x.1) (0, true) ⟨rfl, rfl, rfl, trivial⟩ ⟨by omega, hI1, hf1, fun _ h => h⟩ ?_
  rintro ⟨i, v⟩ wr ρ ⟨hil, hIt, hfr, hv⟩
  dsimp only at hil hIt hv ⊢
  refine sgo ?_
  by_cases hi : i < l.length
  · refine wlnext_yes hIt hi fun w2 hI2 hl2 => ?_
    have hfr2 := hfr.step hl2 (by intro x hx; simp only [List.mem_singleton] at hx; subst hx; exact hr1)
    have hpos : 0 < (l.drop i).length := by simp; omega
    have hpr := pieceR_rng (l.drop i) hpos
    have hdl : (l.drop i).length = l.length - i := by simp
    cases hp : (pieceR (l.drop i)).2.2 with
    | true =>
      have hd := decode_right l i (right_of _ hp)
      have hvb := valid_back (l.drop i) hpos hp
      rw [List.drop_drop] at hvb
      simp only [hd] at hI2 ⊢
      generalize (pieceR (l.drop i)).2.1 = m at *
      generalize (pieceR (l.drop i)).1.toNat = rr at *
      refine sgo ?_
      (show WC _ _ _ _ _ _ _; first | refine WC_dec rfl (fun hc => ?_) (fun hc => ?_) | refine WC_cond rfl (fun hc => ?_) (fun hc => ?_))
      · refine sgo ?_
        exact ⟨(i + m, false), ⟨rfl, rfl, rfl, trivial⟩, ⟨by dsimp only; omega, hI2, hfr2, fun h => by cases h⟩, by dsimp only; omega⟩
      · refine sgo ?_
        exact ⟨(i + m, v), ⟨rfl, rfl, rfl, trivial⟩, ⟨by dsimp only; omega, hI2, hfr2, fun h1 h2 => hv h1 (hvb h2)⟩, by dsimp only; omega⟩
    | false =>
      have hd := decode_wrong l i hp
      simp only [hd] at hI2 ⊢
      refine sgo ?_
      (show WC _ _ _ _ _ _ _; first | refine WC_dec rfl (fun hc => ?_) (fun hc => ?_) | refine WC_cond rfl (fun hc => ?_) (fun hc => ?_))
      · refine sgo ?_
        exact ⟨(i + 1, false), ⟨rfl, rfl, rfl, trivial⟩, ⟨by dsimp only; omega, hI2, hfr2, fun h => by cases h⟩, by dsimp only; omega⟩
      · exfalso
        simp only [pkb_and, pkb_or, Bool.and_eq_false_iff, Bool.or_eq_false_iff, decide_eq_false_iff_not] at hc
        rcases hc with hc | ⟨h1, h2⟩
        · exact hc rfl
        · have h3 : (l.drop i).take 3 = [239, 191, 189] := by
            have := Decidable.not_not.1 h2
            rwa [show i + 3 - i = 3 by omega] at this
          rw [fffd_right _ h3] at hp
          cases hp
  · refine wlnext_no hIt (by omega) ?_
    rw [List.drop_eq_nil_of_le (by omega)] at hv
    refine sgo ?_
    cases v
    · refine sgo ?_
      refine wls2b rfl (by omega) fun b c w3 hb3 hc1 hc2 hI3 hf3 => ?_
      refine wlcall (runes_ok l _ _ _ rfl hb _ hI3) ?_
      rintro v w4 ⟨hf4, q, cc, rfl, hR, hq⟩
      have hf := (hfr.trans hf3).trans hf4
      refine wl ?_ (y_r2s (runesN_good l) hR.sg rfl)
      refine sgo ?_
      (first | refine fp1 (.inl rfl) rfl rfl ?_ | refine fp2 (.inl rfl) rfl rfl rfl ?_ | refine fp3 (.inl rfl) rfl rfl rfl rfl ?_ | refine fp0 (.inr rfl) rfl ?_ | refine fp0 (.inl rfl) rfl ?_ | refine fp1 (.inr rfl) rfl rfl ?_); refine ⟨?_, by (first | exact Frm.refl _ | assumption | (refine Frm.trans ?_ (by assumption); first | exact Frm.refl _ | assumption))⟩; (try simp only [realB, rv_true, Nat.reduceBEq, cond_true, cond_false, entG, real_lif, updGL])
      rfl
    · refine sgo ?_
      (first | refine fp1 (.inl rfl) rfl rfl ?_ | refine fp2 (.inl rfl) rfl rfl rfl ?_ | refine fp3 (.inl rfl) rfl rfl rfl rfl ?_ | refine fp0 (.inr rfl) rfl ?_ | refine fp0 (.inl rfl) rfl ?_ | refine fp1 (.inr rfl) rfl rfl ?_); refine ⟨?_, by (first | exact Frm.refl _ | assumption | (refine Frm.trans ?_ (by assumption); first | exact Frm.refl _ | assumption))⟩; (try simp only [realB, rv_true, Nat.reduceBEq, cond_true, cond_false, entG, real_lif, updGL])
      rw [mendR_id (hv rfl rfl)]
end Go.Proofs.YtffaoehhhdcjjaaDoor

/-
  Runes as bytes, read again.
-/
set_option linter.unusedSimpArgs false
set_option linter.unusedVariables false
set_option linter.unnecessarySimpa false
namespace Go.Proofs.YtffaoehhhdcjjaaDoor
open Go Go.Sv Go.RowKit

theorem piece_enc (r : Nat) (hg : Good r) (rest : List UInt8) : pieceR (encR r ++ rest) = ((r : Int), (encR r).length, true) := by
  obtain ⟨hg1, hg2⟩ := hg
  have fin : ∀ l : List UInt8, (pieceR l).2.2 = true → Right l := right_of
  unfold encR encN
  by_cases h1 : r < 128
  · rw [if_pos h1]
    generalize hl : (([r] : List Nat).map UInt8.ofNat ++ rest : List UInt8) = l
    have e0 : at0 l 0 = r := by subst hl; simp [at0]; omega
    have hr := fin l (right1 l (by omega))
    rcases hr with ⟨g1, hp⟩ | ⟨gl, g1, g2, g3, g4, hp⟩ | ⟨gl, g1, g2, g3, g4, g5, g6, g7, g8, hp⟩ | ⟨gl, g1, g2, g3, g4, g5, g6, g7, g8, g9, g10, hp⟩
    · rw [hp, e0]; rfl
    all_goals omega
  rw [if_neg h1]
  by_cases h2 : r < 2048
  · rw [if_pos h2]
    generalize hl : (([192 + r / 64, 128 + r % 64] : List Nat).map UInt8.ofNat ++ rest : List UInt8) = l
    have e0 : at0 l 0 = 192 + r / 64 := by subst hl; simp [at0]; omega
    have e1 : at0 l 1 = 128 + r % 64 := by subst hl; simp [at0]; omega
    have hr := fin l (right2 l (by subst hl; simp) (by omega))
    rcases hr with ⟨g1, hp⟩ | ⟨gl, g1, g2, g3, g4, hp⟩ | ⟨gl, g1, g2, g3, g4, g5, g6, g7, g8, hp⟩ | ⟨gl, g1, g2, g3, g4, g5, g6, g7, g8, g9, g10, hp⟩
    · omega
    · rw [hp, e0, e1]; simp; omega
    all_goals omega
  rw [if_neg h2]
  by_cases h3 : r < 65536
  · rw [if_pos h3]
    generalize hl : (([224 + r / 4096, 128 + r / 64 % 64, 128 + r % 64] : List Nat).map UInt8.ofNat ++ rest : List UInt8) = l
    have e0 : at0 l 0 = 224 + r / 4096 := by subst hl; simp [at0]; omega
    have e1 : at0 l 1 = 128 + r / 64 % 64 := by subst hl; simp [at0]; omega
    have e2 : at0 l 2 = 128 + r % 64 := by subst hl; simp [at0]; omega
    have hr := fin l (right3 l (by subst hl; simp) (by omega))
    rcases hr with ⟨g1, hp⟩ | ⟨gl, g1, g2, g3, g4, hp⟩ | ⟨gl, g1, g2, g3, g4, g5, g6, g7, g8, hp⟩ | ⟨gl, g1, g2, g3, g4, g5, g6, g7, g8, g9, g10, hp⟩
    · omega
    · omega
    · rw [hp, e0, e1, e2]; simp; omega
    · omega
  rw [if_neg h3]
  generalize hl : (([240 + r / 262144, 128 + r / 4096 % 64, 128 + r / 64 % 64, 128 + r % 64] : List Nat).map UInt8.ofNat ++ rest : List UInt8) = l
  have e0 : at0 l 0 = 240 + r / 262144 := by subst hl; simp [at0]; omega
  have e1 : at0 l 1 = 128 + r / 4096 % 64 := by subst hl; simp [at0]; omega
  have e2 : at0 l 2 = 128 + r / 64 % 64 := by subst hl; simp [at0]; omega
  have e3 : at0 l 3 = 128 + r % 64 := by subst hl; simp [at0]; omega
  have hr := fin l (right4 l (by subst hl; simp) (by omega))
  rcases hr with ⟨g1, hp⟩ | ⟨gl, g1, g2, g3, g4, hp⟩ | ⟨gl, g1, g2, g3, g4, g5, g6, g7, g8, hp⟩ | ⟨gl, g1, g2, g3, g4, g5, g6, g7, g8, g9, g10, hp⟩
  · omega
  · omega
  · omega
  · rw [hp, e0, e1, e2, e3]; simp; omega

theorem drop_enc (r : Nat) (rest : List UInt8) : (encR r ++ rest).drop (encR r).length = rest := List.drop_left
theorem runesN_flat : ∀ rs : List Nat, (∀ r ∈ rs, Good r) → runesN (rs.flatMap encR) = rs
  | [], _ => rfl
  | r :: rs, h => by
    have h4 := encR_len4 r
    rw [List.flatMap_cons, runesN_cons _ (by simp; omega), piece_enc r (h r List.mem_cons_self)]
    dsimp only
    rw [drop_enc, runesN_flat rs fun x hx => h x (List.mem_cons_of_mem _ hx), Int.toNat_natCast]
theorem valid_flat : ∀ rs : List Nat, (∀ r ∈ rs, Good r) → validR (rs.flatMap encR) = true
  | [], _ => rfl
  | r :: rs, h => by
    have h4 := encR_len4 r
    rw [List.flatMap_cons]
    refine valid_back _ (by simp; omega) ?_ ?_
    · rw [piece_enc r (h r List.mem_cons_self)]
    · rw [piece_enc r (h r List.mem_cons_self)]
      dsimp only
      rw [drop_enc]
      exact valid_flat rs fun x hx => h x (List.mem_cons_of_mem _ hx)
theorem valid_mend (l : List UInt8) : validR (mendR l) = true := valid_flat _ (runesN_good l)
theorem runesN_mend (l : List UInt8) : runesN (mendR l) = runesN l := runesN_flat _ (runesN_good l)
theorem mend_flat {rs : List Nat} (h : ∀ r ∈ rs, Good r) : mendR (rs.flatMap encR) = rs.flatMap encR := mendR_id (valid_flat rs h)
theorem mend_mend (l : List UInt8) : mendR (mendR l) = mendR l := mendR_id (valid_mend l)
end Go.Proofs.YtffaoehhhdcjjaaDoor

/-
  Package link: schemes; what is stripped.
-/
set_option linter.unusedSimpArgs false
set_option linter.unusedVariables false
set_option linter.unnecessarySimpa false
namespace Go.Sv
open Go Go.RowKit
section
variable {P : Program} {n : Nat} {ds : Ctx} {ops : Array Oper} {Q : Exit → Ctx → Env → World → Prop} {rest : List Oper} {σ : GE} {w : World} {d : Nat} {ty t e : TypeId} {pos : String} {af : Array Edge} {x y : Operand} {zv : Value} {size bytes c : Nat} {kl kc : IntKind}
/-- make of no elements, with room for c -/
theorem wlmake0 [hu : Und P t (.slice e)] [hi : Inf P e zv size bytes] (h : ∀ b w', w.heap.size ≤ b → Row w' size (pb b) 0 c [] → Frm w w' → WL P n ds ops Q rest (real (updG σ d ⟨.slice (pb b) 0 c, true⟩)) w')
    (hx : evl (real σ) x = .int kl 0 := by rfl) (hy : evl (real σ) y = .int kc c := by rfl) (hb : bytes * c ≤ 281474976710656 := by omega) (hc : c ≤ 9223372036854775807 := by omega) :
    WL P n ds ops Q (⟨some d, .makeSlice t x y, ty, pos, af, none⟩ :: rest) (real σ) w := by
  obtain ⟨i, h1, h2, h3, h4⟩ := inf_size (P := P) (t := e)
  subst h3 h4
  have hbI : (i.bytes : Int) * (c : Int) ≤ 281474976710656 := by
    have h : ((i.bytes * c : Nat) : Int) ≤ 281474976710656 := by omega
    rwa [Int.natCast_mul] at h
  have hr := run_make (P := P) w t e i zv hu.ok h1 h2 kl kc 0 c (Int.le_refl _) (by omega) hbI (by omega)
  simp only [Int.toNat_zero, Int.toNat_natCast] at hr
  refine wl (h w.heap.size (w.alloc (.cells (madeCells zv.cells (c * i.size)) e)) (Nat.le_refl _) ?_ (frm_alloc w _)) (Y.val ?_)
  · refine ⟨by simp, .inr ⟨_, 0, _, _, rfl, heap_alloc_new _ _, by omega, hc, by rw [size_madeCells]; omega, by simp⟩⟩
  · simp only [execOp, hx, hy, Sem.run_bind]
    rw [hr]
    rfl
end
end Go.Sv
namespace Go.Proofs.YtffaoehhhdcjjaaDoor
open Go Go.Sv Go.RowKit

def schB (c : Nat) : Bool := letterR c || digitR c || decide (c = 43 ∨ c = 45 ∨ c = 46)
theorem schemeByte_ok (c : Nat) (hn : c < 256) (w : World) : PureC Tryd.prog 38 #[byt c] w (.bool (schB c)) := by
  refine enter (l := [byt c]) Tryd.func38 rfl Tryd.ntmps38 (by kernel_rfl) rfl ?_
  refine sgo ?_
  refine wlpure (letter_ok c _) fun w1 hf1 => ?_
  refine sgo ?_
  refine wlcallgp (vals := [i32 c]) (fun _ => digit_ok c _) fun w2 hf2 => ?_
  refine sgo ?_
  (first | refine fp1 (.inl rfl) rfl rfl ?_ | refine fp2 (.inl rfl) rfl rfl rfl ?_ | refine fp3 (.inl rfl) rfl rfl rfl rfl ?_ | refine fp0 (.inr rfl) rfl ?_ | refine fp0 (.inl rfl) rfl ?_ | refine fp1 (.inr rfl) rfl rfl ?_); refine ⟨?_, by (first | exact Frm.refl _ | assumption | (refine Frm.trans ?_ (by assumption); first | exact Frm.refl _ | assumption))⟩; (try simp only [realB, rv_true, Nat.reduceBEq, cond_true, cond_false, entG, real_lif, updGL])
  refine congrArg Value.bool ?_
  unfold schB
  rw [Bool.eq_iff_iff]
  simp only [pkb_or]
  grind
/-- a scheme's end, behind its first byte -/
def schF : List UInt8 → Nat → Nat × Bool
  | [], _ => (0, false)
  | c :: t, i => if c.toNat = 58 then (i, true) else if schB c.toNat then schF t (i + 1) else (0, false)
def schemeR (l : List UInt8) : Nat × Bool := if l = [] ∨ letterR (at0 l 0) = false then (0, false) else schF (l.drop 1) 1
theorem schF_at (l : List UInt8) (i : Nat) (h : i < l.length) : schF (l.drop i) i = if at0 l i = 58 then (i, true) else if schB (at0 l i) then schF (l.drop (i + 1)) (i + 1) else (0, false) := by
  rw [List.drop_eq_getElem_cons h, schF]
  simp [at0, h]
theorem schF_le : ∀ (l : List UInt8) (i : Nat), (schF l i).1 ≤ i + l.length
  | [], i => by simp [schF]
  | c :: t, i => by
    have := schF_le t (i + 1)
    simp only [schF]
    repeat' split
    · simp
    · simp only [List.length_cons]; omega
    · simp
theorem schemeR_le (l : List UInt8) : (schemeR l).1 ≤ l.length := by
  unfold schemeR
  split
  · simp
  · rename_i h
    have := schF_le (l.drop 1) 1
    cases l with
    | nil => simp at h
    | cons c t => simp at this ⊢; omega
set_option maxHeartbeats 1000000 in
theorem scheme_ok (l : List UInt8) (hb : l.length ≤ 4611686018427387904) (w : World) : PureC Tryd.prog 31 #[str l] w (.tuple #[int (schemeR l).1, .bool (schemeR l).2]) := by
  by_cases hl : l = []
  · subst hl
    refine enter (l := [str []]) Tryd.func31 rfl Tryd.ntmps31 (by kernel_rfl) rfl ?_
    refine sgo ?_
    refine wlcallgp (vals := [i32 0]) (fun _ => letter_ok 0 _) fun w1 hf1 => ?_
    refine sgo ?_
    (first | refine fp1 (.inl rfl) rfl rfl ?_ | refine fp2 (.inl rfl) rfl rfl rfl ?_ | refine fp3 (.inl rfl) rfl rfl rfl rfl ?_ | refine fp0 (.inr rfl) rfl ?_ | refine fp0 (.inl rfl) rfl ?_ | refine fp1 (.inr rfl) rfl rfl ?_); refine ⟨?_, by (first | exact Frm.refl _ | assumption | (refine Frm.trans ?_ (by assumption); first | exact Frm.refl _ | assumption))⟩; (try simp only [realB, rv_true, Nat.reduceBEq, cond_true, cond_false, entG, real_lif, updGL])
    rfl
  have hlen := List.length_pos_iff.2 hl
  refine enter (l := [str l]) Tryd.func31 rfl Tryd.ntmps31 (by kernel_rfl) rfl ?_
  refine sgo ?_
  have h256 := at_lt l 0
  refine wlcallgp (vals := [i32 (at0 l 0)]) (fun _ => letter_ok (at0 l 0) _) fun w1 hf1 => ?_
  refine sgo ?_
  (show WC _ _ _ _ _ _ _; first | refine WC_dec rfl (fun hc => ?_) (fun hc => ?_) | refine WC_cond rfl (fun hc => ?_) (fun hc => ?_))
  · simp only [pkb_or, Bool.or_eq_true, decide_eq_true_eq, Bool.not_eq_true'] at hc
    refine sgo ?_
    (first | refine fp1 (.inl rfl) rfl rfl ?_ | refine fp2 (.inl rfl) rfl rfl rfl ?_ | refine fp3 (.inl rfl) rfl rfl rfl rfl ?_ | refine fp0 (.inr rfl) rfl ?_ | refine fp0 (.inl rfl) rfl ?_ | refine fp1 (.inr rfl) rfl rfl ?_); refine ⟨?_, by (first | exact Frm.refl _ | assumption | (refine Frm.trans ?_ (by assumption); first | exact Frm.refl _ | assumption))⟩; (try simp only [realB, rv_true, Nat.reduceBEq, cond_true, cond_false, entG, real_lif, updGL])
    rw [schemeR, if_pos hc]
    rfl
  · simp only [pkb_or, Bool.or_eq_false_iff, decide_eq_false_iff_not, Bool.not_eq_false'] at hc
    have hs : schemeR l = schF (l.drop 1) 1 := by
      rw [schemeR, if_neg (by simp [hl, hc.2])]
    rw [hs]
    clear hc
    refine sgo ?_
    refine wcloop (X := Nat) (fun x => [(0, str l), (4, int x)])
      (fun x wr => x ≤ l.length ∧ schF (l.drop x) x = schF (l.drop 1) 1 ∧ Frm w wr) (fun x => l.length - x) 1 ⟨rfl, rfl, trivial⟩ ⟨by omega, rfl, hf1⟩ ?_
    rintro i wr ρ ⟨hi, he, hfr⟩
    refine sgo ?_
    (show WC _ _ _ _ _ _ _; first | refine WC_dec rfl (fun hc => ?_) (fun hc => ?_) | refine WC_cond rfl (fun hc => ?_) (fun hc => ?_))
    · have hil : i < l.length := by omega
      have hstep := schF_at l i hil
      rw [he] at hstep
      rw [hstep]
      have h2 := at_lt l i
      refine sgo ?_
      (show WC _ _ _ _ _ _ _; first | refine WC_dec rfl (fun hc => ?_) (fun hc => ?_) | refine WC_cond rfl (fun hc => ?_) (fun hc => ?_))
      · rw [if_pos (by simp only [at0]; omega)]
        refine sgo ?_
        (first | refine fp1 (.inl rfl) rfl rfl ?_ | refine fp2 (.inl rfl) rfl rfl rfl ?_ | refine fp3 (.inl rfl) rfl rfl rfl rfl ?_ | refine fp0 (.inr rfl) rfl ?_ | refine fp0 (.inl rfl) rfl ?_ | refine fp1 (.inr rfl) rfl rfl ?_); refine ⟨?_, by (first | exact Frm.refl _ | assumption | (refine Frm.trans ?_ (by assumption); first | exact Frm.refl _ | assumption))⟩; (try simp only [realB, rv_true, Nat.reduceBEq, cond_true, cond_false, entG, real_lif, updGL])
      · rw [if_neg (by simp only [at0]; omega)] at hstep ⊢
        refine sgo ?_
        refine wlpure (schemeByte_ok (at0 l i) h2 _) fun w2 hf2 => ?_
        have hfr2 := hfr.trans hf2
        refine sgo ?_
        (show WC _ _ _ _ _ _ _; first | refine WC_dec rfl (fun hc => ?_) (fun hc => ?_) | refine WC_cond rfl (fun hc => ?_) (fun hc => ?_))
        · simp only [Bool.not_eq_true'] at hc
          rw [if_neg (by simp [hc])]
          refine sgo ?_
          (first | refine fp1 (.inl rfl) rfl rfl ?_ | refine fp2 (.inl rfl) rfl rfl rfl ?_ | refine fp3 (.inl rfl) rfl rfl rfl rfl ?_ | refine fp0 (.inr rfl) rfl ?_ | refine fp0 (.inl rfl) rfl ?_ | refine fp1 (.inr rfl) rfl rfl ?_); refine ⟨?_, by (first | exact Frm.refl _ | assumption | (refine Frm.trans ?_ (by assumption); first | exact Frm.refl _ | assumption))⟩; (try simp only [realB, rv_true, Nat.reduceBEq, cond_true, cond_false, entG, real_lif, updGL])
          rfl
        · simp only [Bool.not_eq_false'] at hc
          rw [if_pos hc] at hstep ⊢
          refine sgo ?_
          exact ⟨i + 1, ⟨rfl, rfl, trivial⟩, ⟨by omega, rfl, hfr2⟩, by omega⟩
    · obtain rfl : i = l.length := by omega
      rw [List.drop_length] at he
      rw [← he]
      refine sgo ?_
      (first | refine fp1 (.inl rfl) rfl rfl ?_ | refine fp2 (.inl rfl) rfl rfl rfl ?_ | refine fp3 (.inl rfl) rfl rfl rfl rfl ?_ | refine fp0 (.inr rfl) rfl ?_ | refine fp0 (.inl rfl) rfl ?_ | refine fp1 (.inr rfl) rfl rfl ?_); refine ⟨?_, by (first | exact Frm.refl _ | assumption | (refine Frm.trans ?_ (by assumption); first | exact Frm.refl _ | assumption))⟩; (try simp only [realB, rv_true, Nat.reduceBEq, cond_true, cond_false, entG, real_lif, updGL])
      rfl

theorem gdec {p : Prop} [Decidable p] (h : (true && (decide p == true)) = true) : p := by simpa using h
/-- what is left of runes behind leading blanks and controls -/
def cutL (rs : List Nat) : List Nat := rs.dropWhile fun r => decide (r ≤ 32)
def cutT (rs : List Nat) : List Nat := (cutL rs.reverse).reverse
def keepN (rs : List Nat) : List Nat := rs.filter fun r => decide (r ≠ 9 ∧ r ≠ 10 ∧ r ≠ 13)
def stripN (rs : List Nat) : List Nat := keepN (cutT (cutL rs))
def stripR (l : List UInt8) : List UInt8 := (stripN (runesN l)).flatMap encR
theorem cutL_nil : cutL [] = [] := rfl
theorem cutL_at (rs : List Nat) (i : Nat) (h : i < rs.length) : cutL (rs.drop i) = if rs[i]?.getD 0 ≤ 32 then cutL (rs.drop (i + 1)) else rs.drop i := by
  rw [List.drop_eq_getElem_cons h, cutL, List.dropWhile_cons]
  simp [h, cutL]
theorem cutT_nil : cutT [] = [] := rfl
theorem cutT_at (rs : List Nat) (i : Nat) (h : i < rs.length) : cutT (rs.take (i + 1)) = if rs[i]?.getD 0 ≤ 32 then cutT (rs.take i) else rs.take (i + 1) := by
  rw [List.take_succ_eq_append_getElem h, cutT, List.reverse_append, cutL]
  simp only [List.reverse_cons, List.reverse_nil, List.nil_append, List.cons_append, List.dropWhile_cons]
  simp only [List.getElem?_eq_getElem h, Option.getD_some, decide_eq_true_eq]
  split
  · rfl
  · simp
theorem cutL_mem {rs : List Nat} {r : Nat} (h : r ∈ cutL rs) : r ∈ rs := (List.dropWhile_sublist _).subset h
theorem cutT_mem {rs : List Nat} {r : Nat} (h : r ∈ cutT rs) : r ∈ rs := by
  have := cutL_mem (List.mem_reverse.1 h)
  simpa using this
theorem stripN_mem {rs : List Nat} {r : Nat} (h : r ∈ stripN rs) : r ∈ rs := cutL_mem (cutT_mem (List.mem_filter.1 h).1)
theorem rs32_len (rs : List Nat) : (rs32 rs).length = rs.length := by simp [rs32]
theorem rs32_drop (rs : List Nat) (i : Nat) : (rs32 rs).drop i = rs32 (rs.drop i) := by simp [rs32, List.map_drop]
theorem rs32_take (rs : List Nat) (i : Nat) : (rs32 rs).take i = rs32 (rs.take i) := by simp [rs32, List.map_take]

set_option maxHeartbeats 1000000 in
theorem strip_ok (l : List UInt8) (hb : l.length ≤ 1073741824) (w : World) : PureC Tryd.prog 9 #[str l] w (str (stripR l)) := by
  refine enter (l := [str l]) Tryd.func9 rfl Tryd.ntmps9 (by kernel_rfl) rfl ?_
  refine sgo ?_
  refine wlpure (mend_ok l hb _) fun w1 hf1 => ?_
  have hml := mendR_len l
  refine sgo ?_
  refine wls2r (valid_mend l) (by omega) fun b c w2 hb2 hR2 hf2 => ?_
  rw [runesN_mend] at hR2 ⊢
  have hfr2 := hf1.trans hf2
  have hcap := hR2.le_cap
  have hrl := runesN_len l
  have hgd := runesN_good l
  have hI2 := hR2.im (M := []) (by simp)
  unfold stripR stripN
  generalize runesN l = rs at *
  refine sgo ?_
  refine wcloop (X := Nat × Option Addr × Nat) (fun x => [(3, .slice x.2.1 (rs.length - x.1) x.2.2)])
    (fun x wr => x.1 ≤ rs.length ∧ rs.length - x.1 ≤ x.2.2 ∧ x.2.2 ≤ 9223372036854775807 ∧ Im [] wr x.2.1 (rs32 (rs.drop x.1)) ∧ cutL (rs.drop x.1) = cutL rs ∧ Frm w wr) (fun x => rs.length - x.1) (0, pb b, c) ⟨rfl, trivial⟩ ⟨by omega, hcap.1, hcap.2, hI2, rfl, hfr2⟩ ?_
  rintro ⟨i, p, c1⟩ wr ρ ⟨hi, hc1, hc2, hI, he, hfr⟩
  dsimp only at hi hc1 hc2 hI he ⊢
  have hdl : (rs32 (rs.drop i)).length = rs.length - i := by simp [rs32]
  have hsome : 0 < rs.length - i → ∃ a, p = some a := fun h => hI.some (by omega)
  have hget : 0 < rs.length - i → (rs32 (rs.drop i))[0]? = some (i32 (rs[i]?.getD 0 : Nat)) := fun h => by
    exact rs32_get (by simp [show i < rs.length from by omega])
  have hcut := cutL_at rs i
  generalize rs[i]?.getD 0 = r at *
  refine sgo ?_
  refine wlg (v := ptrAt p 0) ?_ rfl rfl (fun hg => y_idx1 (i := 0) (evG hg) (evG hg) (by have := gdec hg; omega) (hsome (by have := gdec hg; omega)))
  refine wlg (v := i32 r) ?_ rfl rfl (fun hg => y_load (i := 0) (evG hg) hI.sg (hget (by have := gdec hg; omega)))
  refine sgo ?_
  (show WC _ _ _ _ _ _ _; first | refine WC_dec rfl (fun hc => ?_) (fun hc => ?_) | refine WC_cond rfl (fun hc => ?_) (fun hc => ?_))
  · simp only [pkb_and, Bool.and_eq_true, decide_eq_true_eq] at hc
    have hil : i < rs.length := by omega
    have hcut := hcut hil
    rw [if_pos (by omega), he] at hcut
    refine sgo ?_
    have hI3 := hI.part1 (c := c1) (i' := 1) (by intro h; rw [rs32_drop, List.drop_drop, List.drop_eq_nil_of_le (by omega)]; rfl)
    rw [rs32_drop, List.drop_drop] at hI3
    exact ⟨(i + 1, slp c1 1 p 1, c1 - 1), ⟨rfl, trivial⟩, ⟨by dsimp only; omega, by dsimp only; omega, by dsimp only; omega, hI3, hcut.symm, hfr⟩, by dsimp only; omega⟩
  · simp only [pkb_and, Bool.and_eq_false_iff, decide_eq_false_iff_not] at hc
    have hdone : cutL rs = rs.drop i := by
      rcases Nat.lt_or_ge i rs.length with h | h
      · rw [← he, hcut h, if_neg (by omega)]
      · rw [← he, List.drop_eq_nil_of_le h]; rfl
    rw [hdone]
    have hdl2 : (rs.drop i).length = rs.length - i := by simp
    rw [← hdl2] at hc1
    have hgd2 : ∀ r ∈ rs.drop i, Good r := fun r hr => hgd r (List.mem_of_mem_drop hr)
    have hl2 : (rs.drop i).length ≤ 1073741824 := by omega
    clear hc
    refine sgo ?_
    rw [← hdl2]
    clear hdone hdl2 hcut he hget hsome hdl hI2 hR2 hgd hrl
    generalize rs.drop i = qs at *
    refine wcloop (X := Nat) (fun x => [(3, .slice p x c1)])
      (fun x wr => x ≤ qs.length ∧ cutT (qs.take x) = cutT qs ∧ Im [] wr p (rs32 (qs.take x)) ∧ Frm w wr) (fun x => x) qs.length ⟨rfl, trivial⟩ ⟨by omega, by rw [List.take_length], by rw [List.take_length]; exact hI, hfr⟩ ?_
    clear hI hfr hi r wr ρ
    rintro k wr ρ ⟨hk, he, hI, hfr⟩
    have hkl : (qs.take k).length = k := by simp; omega
    have hsome : 0 < k → ∃ a, p = some a := fun h => hI.some (by rw [rs32_length]; omega)
    have hget : 0 < k → (rs32 (qs.take k))[k - 1]? = some (i32 (qs[k - 1]?.getD 0 : Nat)) := fun h => by
      refine rs32_get ?_
      rw [List.getElem?_take_of_lt (by omega)]
      simp [show k - 1 < qs.length from by omega]
    have hcut := cutT_at qs (k - 1)
    generalize qs[k - 1]?.getD 0 = r at *
    have ek : ((k : Int) - 1).toNat = k - 1 := by omega
    refine sgo ?_
    refine wlg (v := ptrAt p ((k : Int) - 1).toNat) ?_ rfl rfl (fun hg => y_idx1I (evG hg) (evG hg) (by have := gdec hg; omega) (hsome (by have := gdec hg; omega)))
    rw [← ek] at hget
    refine wlg (v := i32 r) ?_ rfl rfl (fun hg => y_load (evG hg) hI.sg (hget (by have := gdec hg; omega)))
    refine sgo ?_
    (show WC _ _ _ _ _ _ _; first | refine WC_dec rfl (fun hc => ?_) (fun hc => ?_) | refine WC_cond rfl (fun hc => ?_) (fun hc => ?_))
    · simp only [pkb_and, Bool.and_eq_true, decide_eq_true_eq] at hc
      have h0 : 0 < k := by omega
      have hcut := hcut (by omega)
      rw [if_pos (by omega), Nat.sub_add_cancel h0, he] at hcut
      have hI3 := hI.take (k - 1)
      rw [rs32_take, List.take_take, Nat.min_eq_left (by omega)] at hI3
      refine sgo ?_
      exact ⟨k - 1, ⟨congrArg (fun x => Value.slice p x c1) ek, trivial⟩, ⟨by omega, hcut.symm, hI3, hfr⟩, by omega⟩
    · simp only [pkb_and, Bool.and_eq_false_iff, decide_eq_false_iff_not] at hc
      have hdone : cutT qs = qs.take k := by
        rcases Nat.eq_zero_or_pos k with h | h
        · rw [← he, h]; rfl
        · have := hcut (by omega)
          rw [if_neg (by omega), Nat.sub_add_cancel h, he] at this
          exact this
      rw [hdone]
      have hgd3 : ∀ r ∈ qs.take k, Good r := fun r hr => hgd2 r (List.mem_of_mem_take hr)
      have hl3 : (qs.take k).length ≤ 1073741824 := by omega
      clear hc
      refine sgo ?_
      have hc3 : (qs.take k).length ≤ c1 := by omega
      clear hdone hcut he hget hsome hgd2 hc1 hl2 hk ek
      generalize qs.take k = ts at *
      subst hkl
      have hBw : ∀ {x}, wr.heap.size ≤ x → w.heap.size ≤ x := fun h => Nat.le_trans hfr.size h
      clear hcap hb2 hf2 hf1 hfr2 hc2 hml hb w1 w2
      refine wlmake0 fun b0 w0 hb0 hR0 hf0 => ?_
      replace hI := (hI.fresh hb0).frm hf0
      replace hfr := hfr.trans hf0
      have hBb : ∀ x ∈ rb (pb b0), w.heap.size ≤ x := by
        intro x hx
        simp only [rb, List.mem_singleton] at hx
        subst hx
        exact hBw hb0
      clear hb0 hf0
      refine sgo ?_
      refine wcloop (X := Nat × Option Addr × List Nat × Nat) (fun x => [(4, .slice x.2.1 x.2.2.1.length x.2.2.2), (41, .slice p ts.length c1), (42, int ts.length), (43, int x.1)])
        (fun x wr => x.1 ≤ ts.length ∧ x.2.2.1.length ≤ x.1 ∧ keepN (ts.take x.1) = x.2.2.1 ∧ Row wr 1 x.2.1 x.2.2.1.length x.2.2.2 (rs32 x.2.2.1) ∧ Im (rb x.2.1) wr p (rs32 ts) ∧ (∀ y ∈ rb x.2.1, w.heap.size ≤ y) ∧ Frm w wr) (fun x => ts.length - x.1) (0, pb b0, [], ts.length) ⟨rfl, rfl, rfl, rfl, trivial⟩ ⟨by omega, by simp, rfl, hR0, hI, hBb, hfr⟩ ?_
      clear hR0 hI hBb hfr hBw wr ρ
      rintro ⟨j, q, ks, c2⟩ wr ρ ⟨hj, hkl, hke, hR, hI, hBb, hfr⟩
      dsimp only at hj hkl hke hR hI hBb ⊢
      refine sgo ?_
      (show WC _ _ _ _ _ _ _; first | refine WC_dec rfl (fun hc => ?_) (fun hc => ?_) | refine WC_cond rfl (fun hc => ?_) (fun hc => ?_))
      · have hjl : j < ts.length := by omega
        have hst : keepN (ts.take (j + 1)) = ks ++ keepN [ts[j]?.getD 0] := by
          rw [List.take_succ_eq_append_getElem hjl, keepN, List.filter_append]
          rw [show List.filter _ (ts.take j) = ks from hke]
          simp [hjl, keepN]
        have hget : (rs32 ts)[j]? = some (i32 (ts[j]?.getD 0 : Nat)) := rs32_get (by simp [hjl])
        generalize ts[j]?.getD 0 = r at *
        have hsome := hI.some (by rw [rs32_length]; omega)
        refine sgo ?_
        by_cases hr : r ≠ 9 ∧ r ≠ 10 ∧ r ≠ 13
        · rw [show keepN [r] = [r] from by simp [keepN, hr]] at hst
          iterate 3 (refine sgo ?_; refine WC_dec rfl (fun hc => absurd hc (by omega)) (fun hc => ?_))
          refine sgo ?_
          refine wlb1_int fun b6 w6 hb6 ho6 hf6 => ?_
          refine wlapp (hR.frm hf6) ho6.sg (fun q' c' w7 hR7 hl7 => ?_)
          have hIm7 := (hI.frm hf6).lm hl7
          have hfr7 := (hfr.trans hf6).step hl7.1 hBb
          have hBb7 : ∀ y ∈ rb q', w.heap.size ≤ y := by
            intro y hy
            rcases Nat.lt_or_ge y w6.heap.size with h | h
            · exact hBb y (hl7.2 y hy h)
            · exact Nat.le_trans (hfr.trans hf6).size h
          refine sgo ?_
          exact ⟨(j + 1, q', ks ++ [r], c'), ⟨by rw [List.length_append]; rfl, rfl, rfl, rfl, trivial⟩, ⟨by dsimp only; omega, by simp; omega, hst, by dsimp only; rw [List.length_append, rs32, List.map_append]; exact hR7, hIm7, hBb7, hfr7⟩, by dsimp only; omega⟩
        · rw [show keepN [r] = [] from by simp [keepN]; omega, List.append_nil] at hst
          have hgo : ∀ {A : Prop}, A → A := fun h => h
          by_cases h9 : r = 9
          · subst h9
            refine sgo ?_
            exact ⟨(j + 1, q, ks, c2), ⟨rfl, rfl, rfl, rfl, trivial⟩, ⟨by dsimp only; omega, by dsimp only; omega, hst, hR, hI, hBb, hfr⟩, by dsimp only; omega⟩
          · by_cases h10 : r = 10
            · subst h10
              refine sgo ?_
              exact ⟨(j + 1, q, ks, c2), ⟨rfl, rfl, rfl, rfl, trivial⟩, ⟨by dsimp only; omega, by dsimp only; omega, hst, hR, hI, hBb, hfr⟩, by dsimp only; omega⟩
            · obtain rfl : r = 13 := by omega
              refine sgo ?_
              exact ⟨(j + 1, q, ks, c2), ⟨rfl, rfl, rfl, rfl, trivial⟩, ⟨by dsimp only; omega, by dsimp only; omega, hst, hR, hI, hBb, hfr⟩, by dsimp only; omega⟩
      · obtain rfl : j = ts.length := by omega
        rw [List.take_length] at hke
        rw [← hke] at hR hkl ⊢
        refine sgo ?_
        refine wl ?_ (y_r2s (fun r hr => hgd3 r (List.mem_filter.1 hr).1) hR.sg rfl)
        refine sgo ?_
        (first | refine fp1 (.inl rfl) rfl rfl ?_ | refine fp2 (.inl rfl) rfl rfl rfl ?_ | refine fp3 (.inl rfl) rfl rfl rfl rfl ?_ | refine fp0 (.inr rfl) rfl ?_ | refine fp0 (.inl rfl) rfl ?_ | refine fp1 (.inr rfl) rfl rfl ?_); refine ⟨?_, by (first | exact Frm.refl _ | assumption | (refine Frm.trans ?_ (by assumption); first | exact Frm.refl _ | assumption))⟩; (try simp only [realB, rv_true, Nat.reduceBEq, cond_true, cond_false, entG, real_lif, updGL])
        rfl
      done
end Go.Proofs.YtffaoehhhdcjjaaDoor

/-
  Package link: Scheme, percent escapes.
-/
set_option linter.unusedSimpArgs false
set_option linter.unusedVariables false
set_option linter.unnecessarySimpa false
namespace Go.Sv
open Go Go.RowKit
/-- a cut behind the code at hand -/
theorem wcutn {P : Program} {n : Nat} {ds : Ctx} {K : Ctx → Env → World → Prop} {Q : Exit → Ctx → Env → World → Prop} {σ : Env} {w : World} {a : Code} {X : Type} (sl : X → List (Nat × Value)) (I : X → World → Prop)
    (ha : WC P n ds a (thl ds (fun σ w => ∃ x, Has σ (sl x) ∧ I x w) Q) σ w) (hb : ∀ x w (ρ : GE), I x w → K ds (real (updGL ρ (sl x))) w) : WC P n ds a (thn K Q) σ w := by
  refine WC_mono ha ?_
  intro e c' σ' w' h
  unfold thl at h
  unfold thn
  cases e <;> try exact h
  obtain ⟨rfl, x, h1, h2⟩ := h
  have := hb x w' (lif σ') h2
  rw [← real_updL, updL_has h1] at this
  exact this
end Go.Sv
namespace Go.Proofs.YtffaoehhhdcjjaaDoor
open Go Go.Sv Go.RowKit

theorem stripR_len (l : List UInt8) : (stripR l).length ≤ 4 * l.length := by
  have h1 := encR_flat (stripN (runesN l))
  have h2 : (stripN (runesN l)).length ≤ (runesN l).length := by
    unfold stripN keepN cutT cutL
    refine Nat.le_trans (List.length_filter_le _ _) ?_
    rw [List.length_reverse]
    refine Nat.le_trans ((List.dropWhile_sublist _).length_le) ?_
    rw [List.length_reverse]
    exact (List.dropWhile_sublist _).length_le
  have h3 := runesN_len l
  unfold stripR; omega
theorem scheme2_ok (l : List UInt8) (hb : l.length ≤ 1073741824) (w : World) : PureC Tryd.prog 7 #[str l] w (.tuple #[str (lowR ((stripR l).take (schemeR (stripR l)).1)), .bool (schemeR (stripR l)).2]) := by
  refine enter (l := [str l]) Tryd.func7 rfl Tryd.ntmps7 (by kernel_rfl) rfl ?_
  refine sgo ?_
  refine wlpure (strip_ok l hb _) fun w1 hf1 => ?_
  have hl := stripR_len l
  generalize stripR l = s at *
  refine sgo ?_
  refine wlpure (scheme_ok s (by omega) _) fun w2 hf2 => ?_
  have hf := hf1.trans hf2
  have hle := schemeR_le s
  generalize schemeR s = m at *
  refine sgo ?_
  refine wlpure (lower_ok (s.take m.1) (by simp; omega) _) fun w3 hf3 => ?_
  have hf' := hf.trans hf3
  refine sgo ?_
  (first | refine fp1 (.inl rfl) rfl rfl ?_ | refine fp2 (.inl rfl) rfl rfl rfl ?_ | refine fp3 (.inl rfl) rfl rfl rfl rfl ?_ | refine fp0 (.inr rfl) rfl ?_ | refine fp0 (.inl rfl) rfl ?_ | refine fp1 (.inr rfl) rfl rfl ?_); refine ⟨?_, by (first | exact Frm.refl _ | assumption | (refine Frm.trans ?_ (by assumption); first | exact Frm.refl _ | assumption))⟩; (try simp only [realB, rv_true, Nat.reduceBEq, cond_true, cond_false, entG, real_lif, updGL])

/-- two hexadecimal digits ahead? -/
def codedR (l : List UInt8) (i : Nat) : Bool := decide (i + 2 < l.length) && hexR (at0 l (i + 1)) && hexR (at0 l (i + 2))
theorem coded_ok (l : List UInt8) (i : Nat) (hi : i ≤ l.length) (hb : l.length ≤ 4611686018427387904) (w : World) : PureC Tryd.prog 74 #[str l, int i] w (.bool (codedR l i)) := by
  refine enter (l := [str l, int i]) Tryd.func74 rfl Tryd.ntmps74 (by kernel_rfl) rfl ?_
  refine sgo ?_
  have h1 := at_lt l (i + 1)
  have h2 := at_lt l (i + 2)
  refine wlcallgp (vals := [i32 (at0 l (i + 1))]) (fun _ => hex_ok (at0 l (i + 1)) h1 _) fun w1 hf1 => ?_
  refine sgo ?_
  refine wlcallgp (vals := [i32 (at0 l (i + 2))]) (fun _ => hex_ok (at0 l (i + 2)) h2 _) fun w2 hf2 => ?_
  have hf := hf1.trans hf2
  refine sgo ?_
  (first | refine fp1 (.inl rfl) rfl rfl ?_ | refine fp2 (.inl rfl) rfl rfl rfl ?_ | refine fp3 (.inl rfl) rfl rfl rfl rfl ?_ | refine fp0 (.inr rfl) rfl ?_ | refine fp0 (.inl rfl) rfl ?_ | refine fp1 (.inr rfl) rfl rfl ?_); refine ⟨?_, by (first | exact Frm.refl _ | assumption | (refine Frm.trans ?_ (by assumption); first | exact Frm.refl _ | assumption))⟩; (try simp only [realB, rv_true, Nat.reduceBEq, cond_true, cond_false, entG, real_lif, updGL])
  refine congrArg Value.bool ?_
  unfold codedR
  rw [pkb_and, pkb_and]
  rw [show decide ((i : Int) + 2 < l.length) = decide (i + 2 < l.length) from decide_eq_decide.2 (by omega)]
theorem hexes_ok (l : List UInt8) (i : Nat) (hi : i ≤ l.length) (hb : l.length ≤ 4611686018427387904) (w : World) : PureC Tryd.prog 111 #[str l, int i] w (.bool (codedR l i)) := by
  refine enter (l := [str l, int i]) Tryd.func111 rfl Tryd.ntmps111 (by kernel_rfl) rfl ?_
  refine sgo ?_
  have h1 := at_lt l (i + 1)
  have h2 := at_lt l (i + 2)
  refine wlcallgp (vals := [i32 (at0 l (i + 1))]) (fun _ => hex4_ok (at0 l (i + 1)) h1 _) fun w1 hf1 => ?_
  refine sgo ?_
  refine wlcallgp (vals := [i32 (at0 l (i + 2))]) (fun _ => hex4_ok (at0 l (i + 2)) h2 _) fun w2 hf2 => ?_
  have hf := hf1.trans hf2
  refine sgo ?_
  (first | refine fp1 (.inl rfl) rfl rfl ?_ | refine fp2 (.inl rfl) rfl rfl rfl ?_ | refine fp3 (.inl rfl) rfl rfl rfl rfl ?_ | refine fp0 (.inr rfl) rfl ?_ | refine fp0 (.inl rfl) rfl ?_ | refine fp1 (.inr rfl) rfl rfl ?_); refine ⟨?_, by (first | exact Frm.refl _ | assumption | (refine Frm.trans ?_ (by assumption); first | exact Frm.refl _ | assumption))⟩; (try simp only [realB, rv_true, Nat.reduceBEq, cond_true, cond_false, entG, real_lif, updGL])
  refine congrArg Value.bool ?_
  unfold codedR
  rw [pkb_and, pkb_and]
  rw [show decide ((i : Int) + 2 < l.length) = decide (i + 2 < l.length) from decide_eq_decide.2 (by omega)]

def codedS (t : List UInt8) : Bool := decide (1 < t.length) && hexR (at0 t 0) && hexR (at0 t 1)
theorem at_drop (l : List UInt8) (i j : Nat) : at0 (l.drop i) j = at0 l (i + j) := by simp [at0]
theorem codedR_drop (l : List UInt8) (i : Nat) : codedR l i = codedS (l.drop (i + 1)) := by
  unfold codedR codedS
  rw [at_drop, at_drop]
  rw [show decide (1 < (l.drop (i + 1)).length) = decide (i + 2 < l.length) from decide_eq_decide.2 (by simp; omega)]
def badB : List UInt8 := [34, 60, 62, 92, 94, 96, 123, 124, 125]
def escB (c : Nat) (coded : Bool) : Bool := decide (c ≤ 32) || decide (127 ≤ c) || decide (UInt8.ofNat c ∈ badB) || (decide (c = 37) && !coded)
def digs : List UInt8 := [48, 49, 50, 51, 52, 53, 54, 55, 56, 57, 65, 66, 67, 68, 69, 70]
def pct (c : Nat) : List UInt8 := [37, digs[c / 16]?.getD 0, digs[c % 16]?.getD 0]
def encC (c : Nat) (coded : Bool) : List UInt8 := if escB c coded then pct c else [UInt8.ofNat c]
def encL : List UInt8 → List UInt8
  | [] => []
  | c :: t => encC c.toNat (codedS t) ++ encL t
def encodeR (s : List UInt8) : List UInt8 := encL (mendR s)
theorem encL_at (l : List UInt8) (i : Nat) (h : i < l.length) : encL (l.drop i) = encC (at0 l i) (codedR l i) ++ encL (l.drop (i + 1)) := by
  rw [List.drop_eq_getElem_cons h, encL, codedR_drop]
  simp [at0, h]
theorem encC_len (c : Nat) (b : Bool) : (encC c b).length ≤ 3 := by
  unfold encC
  split
  · simp [pct]
  · simp
theorem encL_len : ∀ l : List UInt8, (encL l).length ≤ 3 * l.length
  | [] => by simp [encL]
  | c :: t => by
    have h1 := encL_len t
    have h2 := encC_len c.toNat (codedS t)
    simp only [encL, List.length_append, List.length_cons]; omega
theorem indexByte_mem : ∀ (l : List UInt8) (c : UInt8), (0 ≤ Lib.indexByte l c) ↔ c ∈ l
  | [], c => by simp [Lib.indexByte]
  | b :: l, c => by
    have h := indexByte_mem l c
    have hg := Lib.indexByte_ge l c
    simp only [Lib.indexByte, List.mem_cons]
    by_cases hb : b = c
    · simp [hb]
    · have hb' : ¬ c = b := fun h => hb h.symm
      simp only [beq_iff_eq, hb, hb', if_false, false_or]
      split
      · rename_i h1
        rw [h1] at h
        rw [← h]
      · rw [← h]; omega
theorem indexByte_ok (s : List UInt8) (c : Nat) (w : World) : PureC Tryd.prog 73 #[str s, byt c] w (int (Lib.indexByte s (UInt8.ofNat c))) := by
  refine Calls.mono (Tryd.strings_IndexByte ⟨s.toArray⟩ c w) ?_
  rintro e w' ⟨rfl, rfl⟩
  exact ⟨_, rfl, rfl, Frm.refl _⟩
theorem sh4 (c : Nat) : (c : Int).fdiv (2 ^ (min (4 : Int).toNat IntKind.u8.bits)) = ((c / 16 : Nat) : Int) := fd c 16 (by decide)
theorem an15 (c : Nat) (hc : c < 256) : bitop .and .u8 (c : Int) 15 = ((c % 16 : Nat) : Int) := by revert hc; revert c; decide +kernel
set_option maxHeartbeats 2000000 in
theorem encode_ok (l : List UInt8) (hb : l.length ≤ 1073741824) (w : World) : PureC Tryd.prog 41 #[str l] w (str (encodeR l)) := by
  refine enter (l := [str l]) Tryd.func41 rfl Tryd.ntmps41 (by kernel_rfl) rfl ?_
  refine sgo ?_
  refine wlpure (mend_ok l hb _) fun w1 hf1 => ?_
  have hml := mendR_len l
  unfold encodeR
  generalize mendR l = t at *
  refine sgo ?_
  refine wlallocT fun b w0 hbw ha0 hf0 => ?_
  have hB0 : Bld TB TY w0 b none [] := Bld.new ha0
  refine sgo ?_
  refine wcloop (X := Nat × Option Addr × List UInt8) (fun x => [(0, str t), (3, ptrAt (pb b) 0), (9, int t.length), (10, int x.1)])
    (fun x wr => x.1 ≤ t.length ∧ x.2.2 ++ encL (t.drop x.1) = encL t ∧ x.2.2.length ≤ 3 * x.1 ∧ Bld TB TY wr b x.2.1 x.2.2 ∧ Frm w wr ∧ ∀ k ∈ b :: rb x.2.1, w.heap.size ≤ k)
    (fun x => t.length - x.1) (0, none, []) ⟨rfl, rfl, rfl, rfl, trivial⟩ ⟨by omega, by simp, by simp, hB0, hf1.trans hf0, ?_⟩ ?_
  · intro k hk
    simp only [rb, List.mem_singleton] at hk
    subst hk
    exact Nat.le_trans hf1.size hbw
  rintro ⟨i, q, s⟩ wr ρ ⟨hi, he, hsl, hBl, hfr, hq⟩
  dsimp only at hi he hsl hBl hq ⊢
  refine sgo ?_
  (show WC _ _ _ _ _ _ _; first | refine WC_dec rfl (fun hc => ?_) (fun hc => ?_) | refine WC_cond rfl (fun hc => ?_) (fun hc => ?_))
  · have hil : i < t.length := by omega
    have hst := encL_at t i hil
    have h256 := at_lt t i
    have hcd := fun w => coded_ok t i hi (by omega) w
    have fin : ∀ q' w', Bld TB TY w' b q' (s ++ encC (at0 t i) (codedR t i)) → Lm (b :: rb q) wr (b :: rb q') w' →
        (i + 1 ≤ t.length ∧ (s ++ encC (at0 t i) (codedR t i)) ++ encL (t.drop (i + 1)) = encL t ∧ (s ++ encC (at0 t i) (codedR t i)).length ≤ 3 * (i + 1) ∧ Bld TB TY w' b q' (s ++ encC (at0 t i) (codedR t i)) ∧ Frm w w' ∧ ∀ k ∈ b :: rb q', w.heap.size ≤ k) := by
      intro q' w' hB' hl'
      have := encC_len (at0 t i) (codedR t i)
      refine ⟨by omega, ?_, by simp; omega, hB', hfr.step hl'.1 hq, hl'.fresh hfr hq⟩
      rw [← he, hst, List.append_assoc]
    generalize codedR t i = cd at *
    clear hst
    simp only [at0] at fin h256
    refine sgo ?_
    generalize (t[i]?.getD 0).toNat = c at *
    refine wcutn (X := Unit) (fun _ => [(0, str t), (3, ptrAt (pb b) 0), (5, byt c), (9, int t.length), (10, int i), (18, .bool (escB c cd))]) (fun _ w' => Frm wr w') ?_ ?_
    · clear fin
      have fin : ∀ {b1 b2 : Bool}, b1 = b2 → Value.bool b1 = .bool b2 := fun h => h ▸ rfl
      (show WC _ _ _ _ _ _ _; first | refine WC_dec rfl (fun hc => ?_) (fun hc => ?_) | refine WC_cond rfl (fun hc => ?_) (fun hc => ?_))
      · refine sgo ?_
        refine ⟨(), ⟨rfl, rfl, rfl, rfl, rfl, fin ?_, trivial⟩, Frm.refl _⟩
        simp [escB, hc, show c ≤ 32 from by omega]
      · have h1 : ¬ c ≤ 32 := by omega
        refine sgo ?_
        (show WC _ _ _ _ _ _ _; first | refine WC_dec rfl (fun hc => ?_) (fun hc => ?_) | refine WC_cond rfl (fun hc => ?_) (fun hc => ?_))
        · refine sgo ?_
          refine ⟨(), ⟨rfl, rfl, rfl, rfl, rfl, fin ?_, trivial⟩, Frm.refl _⟩
          simp [escB, hc, show 127 ≤ c from by omega]
        · have h2 : ¬ 127 ≤ c := by omega
          refine sgo ?_
          refine wlpure (indexByte_ok badB c _) fun w3 hf3 => ?_
          have hm := indexByte_mem badB (UInt8.ofNat c)
          refine sgo ?_
          (show WC _ _ _ _ _ _ _; first | refine WC_dec rfl (fun hc => ?_) (fun hc => ?_) | refine WC_cond rfl (fun hc => ?_) (fun hc => ?_))
          · refine sgo ?_
            refine ⟨(), ⟨rfl, rfl, rfl, rfl, rfl, fin ?_, trivial⟩, hf3⟩
            simp [escB, hc, hm.1 hc]
          · have h3 : ¬ UInt8.ofNat c ∈ badB := fun h => hc (hm.2 h)
            refine sgo ?_
            refine wlcallgp (vals := [str t, int i]) (fun _ => hcd _) fun w4 hf4 => ?_
            refine sgo ?_
            refine ⟨(), ⟨rfl, rfl, rfl, rfl, rfl, fin ?_, trivial⟩, hf3.trans hf4⟩
            rw [pkb_and, show decide ((c : Int) = 37) = decide (c = 37) from decide_eq_decide.2 (by omega)]
            simp [escB, h1, h2, h3]
    · rintro ⟨⟩ w2 ρ2 hf2
      have hB2 := hBl.frm hf2
      refine sgo ?_
      (show WC _ _ _ _ _ _ _; first | refine WC_dec rfl (fun hc => ?_) (fun hc => ?_) | refine WC_cond rfl (fun hc => ?_) (fun hc => ?_))
      · rw [encC, if_pos hc] at fin
        refine sgo ?_
        refine wlcall (writeByte_ok b q s 37 _ hB2 (by omega)) ?_
        rintro v w3 ⟨rfl, q3, hB3, hl3⟩
        refine sgo ?_
        refine wl ?_ (y_sindexN (l := digs) (i := c / 16) rfl (congrArg (Value.int .u8) (sh4 c)) (by simp only [digs, List.length_cons, List.length_nil]; omega))
        refine sgo ?_
        refine wlcall (writeByte_ok b q3 _ (digs[c / 16]?.getD 0) _ hB3 (by simp; omega)) ?_
        rintro v w4 ⟨rfl, q4, hB4, hl4⟩
        refine sgo ?_
        refine wl ?_ (y_sindexN (l := digs) (i := c % 16) rfl (congrArg (Value.int .u8) (an15 c h256)) (by simp only [digs, List.length_cons, List.length_nil]; omega))
        refine sgo ?_
        refine wlcall (writeByte_ok b q4 _ (digs[c % 16]?.getD 0) _ hB4 (by simp; omega)) ?_
        rintro v w5 ⟨rfl, q5, hB5, hl5⟩
        refine sgo ?_
        exact ⟨(i + 1, q5, s ++ pct c), ⟨rfl, rfl, rfl, rfl, trivial⟩, fin q5 w5 (by simpa [pct] using hB5) (lm_frm hf2 ((hl3.trans hl4).trans hl5)), by dsimp only; omega⟩
      · rw [encC, if_neg (by simp [hc])] at fin
        refine sgo ?_
        have e : byt c = byt (UInt8.ofNat c).toNat := by rw [UInt8.toNat_ofNat_of_lt' (by simpa using h256)]
        rw [e]
        refine wlcall (writeByte_ok b q _ (UInt8.ofNat c) _ hB2 (by omega)) ?_
        rintro v w3 ⟨rfl, q3, hB3, hl3⟩
        refine sgo ?_
        exact ⟨(i + 1, q3, s ++ [UInt8.ofNat c]), ⟨rfl, rfl, rfl, rfl, trivial⟩, fin q3 w3 hB3 (lm_frm hf2 hl3), by dsimp only; omega⟩
  · obtain rfl : i = t.length := by omega
    have he' : s = encL t := by simpa [encL] using he
    subst he'
    refine sgo ?_
    refine wlcall (string_ok w.heap.size b q _ _ hBl hq hfr.size) ?_
    rintro v w5 ⟨rfl, hb5⟩
    refine sgo ?_
    (first | refine fp1 (.inl rfl) rfl rfl ?_ | refine fp2 (.inl rfl) rfl rfl rfl ?_ | refine fp3 (.inl rfl) rfl rfl rfl rfl ?_ | refine fp0 (.inr rfl) rfl ?_ | refine fp0 (.inl rfl) rfl ?_ | refine fp1 (.inr rfl) rfl rfl ?_)
    refine ⟨rfl, ?_⟩
    exact Below.trans hfr hb5
end Go.Proofs.YtffaoehhhdcjjaaDoor

/-
  Package link: without percent escapes.
-/
set_option linter.unusedSimpArgs false
set_option linter.unusedVariables false
set_option linter.unnecessarySimpa false
namespace Go.Sv
open Go Go.RowKit
section
variable {P : Program} {σ : GE} {w0 : World} {d : Nat} {ty t e : TypeId} {pos : String} {af : Array Edge} {x : Operand} {zv v : Value} {bytes : Nat} {kk : IntKind} {a : Int} {K : Env → World → Prop}
theorem qxb1v [hu : Und P t (.slice e)] [hi : Inf P e zv 1 bytes] (hx : evl (real σ) x = v) (hv : v.cells = #[v]) (h : ∀ b w', Frm w0 w' → w0.heap.size ≤ b → Own w' b [v] → K (real (updG σ d ⟨.slice (pb b) 1 1, true⟩)) w') (hz : zv.cells.size = 1) :
    QX P w0 ⟨some d, .buildSlice t 1 #[(0, x)], ty, pos, af, none⟩ (real σ) K := by
  refine ⟨fun u w => ∃ b, u = .slice (pb b) 1 1 ∧ w0.heap.size ≤ b ∧ Own w b [v], ?_, ?_, ?_⟩
  · rintro u w w' ⟨b, rfl, h1, h2⟩ hf
    exact ⟨b, rfl, h1, h2.frm hf⟩
  · intro w hw
    refine ⟨_, w.alloc (.cells v.cells e), ?_, frm_alloc _ _, w.heap.size, rfl, hw.size, ?_⟩
    · simp only [execOp, List.map_toArray, List.map_cons, List.map_nil, hx, Sem.run_bind]
      rw [run_buildSlice1 (P := P) (t := t) (e := e) hz (by simp [hv]) (by decide) (by decide)]
      rfl
    · have := own_alloc w v.cells e
      simpa [hv] using this
  · rintro u w hw ⟨b, rfl, h1, h2⟩
    have := h b w hw h1 h2
    rw [← real_upd] at this
    exact this
theorem qxb1_int [hu : Und P t (.slice e)] [hi : Inf P e zv 1 bytes] (h : ∀ b w', Frm w0 w' → w0.heap.size ≤ b → Own w' b [.int kk a] → K (real (updG σ d ⟨.slice (pb b) 1 1, true⟩)) w')
    (hx : evl (real σ) x = .int kk a := by rfl) (hz : zv.cells.size = 1 := by rfl) :
    QX P w0 ⟨some d, .buildSlice t 1 #[(0, x)], ty, pos, af, none⟩ (real σ) K := qxb1v hx rfl h hz
theorem qxb1_str [hu : Und P t (.slice e)] [hi : Inf P e zv 1 bytes] {s : List UInt8} (h : ∀ b w', Frm w0 w' → w0.heap.size ≤ b → Own w' b [str s] → K (real (updG σ d ⟨.slice (pb b) 1 1, true⟩)) w')
    (hx : evl (real σ) x = str s := by rfl) (hz : zv.cells.size = 1 := by rfl) :
    QX P w0 ⟨some d, .buildSlice t 1 #[(0, x)], ty, pos, af, none⟩ (real σ) K := qxb1v hx rfl h hz
end
end Go.Sv
namespace Go.Proofs.YtffaoehhhdcjjaaDoor
open Go Go.Sv Go.RowKit

def valN (c : Nat) : Nat := (valueR c).toNat
theorem valN_of {c : Nat} (h : hexR c = true) : valueR c = (valN c : Int) ∧ valN c < 16 := by
  have h0 : 0 ≤ valueR c := by simpa [hexR] using h
  refine ⟨by unfold valN; omega, ?_⟩
  unfold valN valueR digitR
  simp only [Bool.and_eq_true, decide_eq_true_eq]
  repeat' split
  all_goals omega
theorem hexv_ok (c : Nat) (hn : c < 256) (h : hexR c = true) (w : World) : PureC Tryd.prog 81 #[i32 c] w (int (valN c)) := by
  have := value_ok c hn w
  rwa [(valN_of h).1] at this
theorem hexv4_ok (c : Nat) (hn : c < 256) (h : hexR c = true) (w : World) : PureC Tryd.prog 112 #[i32 c] w (int (valN c)) := by
  have := value4_ok c hn w
  rwa [(valN_of h).1] at this
def decL : List UInt8 → List UInt8
  | [] => []
  | c :: t => if c = 37 ∧ codedS t = true then UInt8.ofNat (16 * valN (at0 t 0) + valN (at0 t 1)) :: decL (t.drop 2) else c :: decL t
termination_by l => l.length
decreasing_by
  · simp; omega
  · simp
theorem decL_nil : decL [] = [] := by rw [decL]
def decodeR (s : List UInt8) : List UInt8 := mendR (decL (mendR s))
theorem u8_eq {c : UInt8} {n : Nat} (hn : n < 256) : c = UInt8.ofNat n ↔ c.toNat = n := by
  constructor
  · rintro rfl; rw [UInt8.toNat_ofNat_of_lt' (by simpa using hn)]
  · intro h; rw [← h]; simp
theorem decL_yes (l : List UInt8) (i : Nat) (h : i < l.length) (h1 : at0 l i = 37) (h2 : codedR l i = true) : decL (l.drop i) = UInt8.ofNat (16 * valN (at0 l (i + 1)) + valN (at0 l (i + 2))) :: decL (l.drop (i + 3)) := by
  rw [List.drop_eq_getElem_cons h, decL, ← codedR_drop, if_pos ⟨by
    have : l[i].toNat = 37 := by simpa [at0, h] using h1
    exact (u8_eq (by decide)).2 this, h2⟩, at_drop, at_drop, List.drop_drop]
theorem decL_no (l : List UInt8) (i : Nat) (h : i < l.length) (hn : ¬ (at0 l i = 37 ∧ codedR l i = true)) : decL (l.drop i) = UInt8.ofNat (at0 l i) :: decL (l.drop (i + 1)) := by
  rw [List.drop_eq_getElem_cons h, decL, ← codedR_drop, if_neg]
  · simp [at0, h]
  · rintro ⟨h1, h2⟩
    refine hn ⟨?_, h2⟩
    simp only [at0, List.getElem?_eq_getElem h, Option.getD_some, h1]
    rfl
theorem decL_len : ∀ (n : Nat) (l : List UInt8), l.length ≤ n → (decL l).length ≤ l.length
  | _, [], _ => by rw [decL]; simp
  | 0, c :: t, h => by simp at h
  | n + 1, c :: t, h => by
    simp only [List.length_cons] at h
    rw [decL]
    split
    · have := decL_len n (t.drop 2) (by simp; omega)
      simp only [List.length_cons, List.length_drop] at this ⊢; omega
    · have := decL_len n t (by omega)
      simp only [List.length_cons]; omega
theorem or_hex : ∀ u : Nat, u < 16 → ∀ v : Nat, v < 16 → IntKind.u8.wrap (bitop .or .i64 (IntKind.i64.wrap ((u : Int) * 2 ^ (min (4 : Int).toNat IntKind.i64.bits))) (v : Int)) = ((16 * u + v : Nat) : Int) := by decide +kernel
theorem coded_hex {l : List UInt8} {i : Nat} (h : codedR l i = true) : i + 2 < l.length ∧ hexR (at0 l (i + 1)) = true ∧ hexR (at0 l (i + 2)) = true := by
  simp only [codedR, Bool.and_eq_true, decide_eq_true_eq] at h
  exact ⟨h.1.1, h.1.2, h.2⟩
set_option maxHeartbeats 2000000 in
theorem decode_ok (l : List UInt8) (hb : l.length ≤ 268435456) (w : World) : PureC Tryd.prog 47 #[str l] w (str (decodeR l)) := by
  refine enter (l := [str l]) Tryd.func47 rfl Tryd.ntmps47 (by kernel_rfl) rfl ?_
  refine sgo ?_
  refine wlpure (mend_ok l (by omega) _) fun w1 hf1 => ?_
  have hml := mendR_len l
  unfold decodeR
  generalize mendR l = t at *
  refine sgo ?_
  refine wcloop (X := Nat × Option Addr × List UInt8 × Nat) (fun x => [(0, str t), (3, .slice x.2.1 x.2.2.1.length x.2.2.2), (4, int x.1)])
    (fun x wr => x.1 ≤ t.length ∧ x.2.2.1 ++ decL (t.drop x.1) = decL t ∧ x.2.2.1.length ≤ x.1 ∧ Row wr 1 x.2.1 x.2.2.1.length x.2.2.2 (bs x.2.2.1) ∧ (∀ k ∈ rb x.2.1, w.heap.size ≤ k) ∧ Frm w wr)
    (fun x => t.length - x.1) (0, none, [], 0) ⟨rfl, rfl, rfl, trivial⟩ ⟨by omega, by simp, by simp, Row.nil _ _, rb_nil _, hf1⟩ ?_
  rintro ⟨i, q, s, c⟩ wr ρ ⟨hi, he, hsl, hR, hq, hfr⟩
  dsimp only at hi he hsl hR hq ⊢
  refine sgo ?_
  (show WC _ _ _ _ _ _ _; first | refine WC_dec rfl (fun hc => ?_) (fun hc => ?_) | refine WC_cond rfl (fun hc => ?_) (fun hc => ?_))
  · have hil : i < t.length := by omega
    have h0 := at_lt t i
    refine sgo ?_
    refine wlcallgp (vals := [str t, int i]) (fun _ => coded_ok t i hi (by omega) _) fun w2 hf2 => ?_
    replace hR := hR.frm hf2
    replace hfr := hfr.trans hf2
    refine sgo ?_
    (show WC _ _ _ _ _ _ _; first | refine WC_dec rfl (fun hc => ?_) (fun hc => ?_) | refine WC_cond rfl (fun hc => ?_) (fun hc => ?_))
    · simp only [pkb_and, Bool.and_eq_true, decide_eq_true_eq] at hc
      have hy := decL_yes t i hil (by simp only [at0]; omega) hc.2
      obtain ⟨g1, g2, g3⟩ := coded_hex hc.2
      have h1 := at_lt t (i + 1)
      have h2 := at_lt t (i + 2)
      have v1 := (valN_of g2).2
      have v2 := (valN_of g3).2
      have hor := or_hex _ v1 _ v2
      refine WC_seq ?_
      refine wcdrawx 16 ?_
      refine qgo ?_
      refine qlcallp (fun w _ => hexv_ok (at0 t (i + 1)) h1 g2 w) ?_
      refine qgo ?_
      refine qlcallp (fun w _ => hexv_ok (at0 t (i + 2)) h2 g3 w) ?_
      refine qgo ?_
      refine QL_nil ?_
      refine qxb1_int fun b w3 hf3 hb3 ho3 => ?_
      rw [hor] at ho3
      have hbyt : 16 * valN (at0 t (i + 1)) + valN (at0 t (i + 2)) < 256 := by omega
      generalize 16 * valN (at0 t (i + 1)) + valN (at0 t (i + 2)) = x at *
      clear hor
      refine wlapp (news := bs [UInt8.ofNat x]) (hR.frm hf3) (by
        have e : bs [UInt8.ofNat x] = [byt x] := by simp [bs, Nat.mod_eq_of_lt hbyt]
        rw [e]; exact ho3.sg) (fun q' c' w4 hR4 hl4 => ?_) (hl := by simp [bs]) (h1 := by simp [bs, Value.oneCell'])
      have hfr4 := (hfr.trans hf3).step hl4.1 hq
      have hq4 := hl4.fresh (hfr.trans hf3) hq
      refine sgo ?_
      refine ⟨(i + 3, q', s ++ [UInt8.ofNat x], c'), ⟨rfl, ?_, ?_, trivial⟩, ⟨by dsimp only; omega, ?_, by simp; omega, ?_, hq4, hfr4⟩, by dsimp only; omega⟩
      · dsimp only; rw [List.length_append]; rfl
      · dsimp only; refine congrArg int ?_; omega
      · dsimp only; rw [← he, hy]; simp
      · dsimp only; rw [List.length_append, bs, List.map_append]; exact hR4
    · have hn : ¬ (at0 t i = 37 ∧ codedR t i = true) := by
        rintro ⟨g1, g2⟩
        rw [g2, pkb_and, Bool.and_true] at hc
        simp only [at0] at g1
        simp only [decide_eq_false_iff_not] at hc
        omega
      have hy := decL_no t i hil hn
      refine sgo ?_
      refine wlb1_int fun b w3 hb3 ho3 hf3 => ?_
      refine wlapp (news := bs [UInt8.ofNat (at0 t i)]) (hR.frm hf3) (by
        have e : bs [UInt8.ofNat (at0 t i)] = [byt (at0 t i)] := by simp [bs]
        rw [e]; exact ho3.sg) (fun q' c' w4 hR4 hl4 => ?_) (hl := by simp [bs]) (h1 := by simp [bs, Value.oneCell'])
      have hfr4 := (hfr.trans hf3).step hl4.1 hq
      have hq4 := hl4.fresh (hfr.trans hf3) hq
      refine sgo ?_
      refine ⟨(i + 1, q', s ++ [UInt8.ofNat (at0 t i)], c'), ⟨rfl, ?_, rfl, trivial⟩, ⟨by dsimp only; omega, ?_, by simp; omega, ?_, hq4, hfr4⟩, by dsimp only; omega⟩
      · dsimp only; rw [List.length_append]; rfl
      · dsimp only; rw [← he, hy]; simp
      · dsimp only; rw [List.length_append, bs, List.map_append]; exact hR4
  · obtain rfl : i = t.length := by omega
    have he' : s = decL t := by simpa [decL_nil] using he
    subst he'
    have hdl := decL_len _ t (Nat.le_refl _)
    refine sgo ?_
    refine wl ?_ (y_b2s rfl hR.sg)
    refine sgo ?_
    refine wlpure (mend_ok (decL t) (by omega) _) fun w3 hf3 => ?_
    have hf' := hfr.trans hf3
    refine sgo ?_
    (first | refine fp1 (.inl rfl) rfl rfl ?_ | refine fp2 (.inl rfl) rfl rfl rfl ?_ | refine fp3 (.inl rfl) rfl rfl rfl rfl ?_ | refine fp0 (.inr rfl) rfl ?_ | refine fp0 (.inl rfl) rfl ?_ | refine fp1 (.inr rfl) rfl rfl ?_); refine ⟨?_, by (first | exact Frm.refl _ | assumption | (refine Frm.trans ?_ (by assumption); first | exact Frm.refl _ | assumption))⟩; (try simp only [realB, rv_true, Nat.reduceBEq, cond_true, cond_false, entG, real_lif, updGL])
end Go.Proofs.YtffaoehhhdcjjaaDoor

/-
  Package sieveref12: Encode, Decode.
-/
set_option linter.unusedSimpArgs false
set_option linter.unusedVariables false
set_option linter.unnecessarySimpa false
namespace Go.Sv
open Go Go.RowKit
section
variable {P : Program} {n : Nat} {ds : Ctx} {ops : Array Oper} {Q : Exit → Ctx → Env → World → Prop} {rest : List Oper} {σ : GE} {w : World} {d : Nat} {ty t t' e : TypeId} {pos : String} {af : Array Edge} {x : Operand} {zv : Value} {bytes : Nat}
def enum (vs : List Value) (j : Nat) : List (Nat × Value) := (vs.zipIdx j).map fun p => (p.2, p.1)
theorem fill_enum : ∀ (vs : List Value) (j : Nat) (z : List Value), (∀ v ∈ vs, v.cells = #[v]) → j + vs.length ≤ z.length →
    Instr.fill (fun i => some (i * 1, 1)) z.toArray (enum vs j) = some (z.take j ++ vs ++ z.drop (j + vs.length)).toArray
  | [], j, z, _, _ => by simp [enum, Instr.fill]
  | v :: vs, j, z, hv, hj => by
    have h1 := hv v List.mem_cons_self
    simp only [List.length_cons] at hj
    have ih := fill_enum vs (j + 1) (z.set j v) (fun u hu => hv u (List.mem_cons_of_mem _ hu)) (by simp; omega)
    simp only [enum, List.zipIdx_cons, List.map_cons, Instr.fill]
    rw [h1]
    simp only [List.size_toArray, List.length_cons, List.length_nil, Nat.mul_one]
    rw [if_neg (by simp; omega)]
    have e : (#[v] : Array Value).zipIdx.foldl (fun cs (x : Value × Nat) => match x with | (c, k) => cs.setIfInBounds (j + k) c) z.toArray = (z.set j v).toArray := by
      simp
    rw [e]
    rw [enum] at ih
    simp only [Nat.mul_one] at ih
    rw [ih]
    congr 2
    have hjl : j < z.length := by omega
    rw [List.take_succ_eq_append_getElem (by simpa using hjl), List.take_set_of_le (Nat.le_refl _), List.drop_set_of_lt (by omega)]
    simp only [List.getElem_set_self, List.append_assoc, List.cons_append, List.nil_append, List.length_cons]
    rw [show j + 1 + vs.length = j + (vs.length + 1) from by omega]
/-- a slice written out, of values of one cell each -/
theorem wlbsn [hu : Und P t (.slice e)] [hi : Inf P e zv 1 bytes] {ps : List (Nat × Operand)} (vs : List Value) (k : Nat) (h : ∀ b w', w.heap.size ≤ b → Own w' b vs → Frm w w' → WL P n ds ops Q rest (real (updG σ d ⟨.slice (pb b) k k, true⟩)) w')
    (hps : ps.map (fun p => (p.1, evl (real σ) p.2)) = enum vs 0 := by rfl) (hk : vs.length = k := by rfl) (h1 : ∀ v ∈ vs, v.cells = #[v]) (hz : zv.cells.size = 1 := by rfl) (hk1 : k ≤ 16777216 := by decide) (hk0 : k ≠ 0 := by decide) :
    WL P n ds ops Q (⟨some d, .buildSlice t k ps.toArray, ty, pos, af, none⟩ :: rest) (real σ) w := by
  subst hk
  refine wl (h w.heap.size (w.alloc (.cells vs.toArray e)) (Nat.le_refl _) (by have := own_alloc w vs.toArray e; simpa using this) (frm_alloc _ _)) (Y.val ?_)
  have hf := fill_enum vs 0 ((Array.range (vs.length * 1)).map (zv.cells[· % zv.cells.size]!)).toList h1 (by simp)
  have hpa : (ps.toArray.map fun (x : Nat × Operand) => match x with | (i, x) => (i, evl (real σ) x)).toList = enum vs 0 := by rw [← hps]; simp
  simp only [execOp, Instr.buildSlice, Sem.run_bind, underlying, run_program, Result.andThen_ok, hu.ok, Sem.run_pure, run_sizeOf (P := P) (t := e), Nat.mul_one]
  rw [if_neg (by omega), if_neg hk0]
  simp only [Sem.run_bind, Sem.run_pure, Result.andThen_ok, run_zeroValue (P := P) (t := e)]
  rw [hpa]
  simp only [Array.toArray_toList, Nat.mul_one] at hf
  rw [hf]
  have hz0 : (vs ++ List.drop vs.length (List.map (fun x => zv.cells[x % zv.cells.size]!) (List.range vs.length))) = vs := by
    rw [List.drop_eq_nil_of_le (by simp), List.append_nil]
  simp [newRow, hz0]
/-- []byte of bytes written out -/
theorem wlmark [hu : Und P t (.slice e)] [he : Und P e (.int .u8)] {b k : Nat} {s : List UInt8} (ho : Own w b (bs s)) (hx : evl (real σ) x = .slice (pb b) k k)
    (h : ∀ w', OwnB w' b s → Le [b] w w' → WL P n ds ops Q rest (real (updG σ d ⟨.slice (pb b) k k, true⟩)) w') :
    WL P n ds ops Q (⟨some d, .convert t t x, ty, pos, af, none⟩ :: rest) (real σ) w := by
  obtain ⟨tt, ho⟩ := ho
  have hlt := (Array.getElem?_eq_some_iff.1 ho).1
  let w' := w.freeze ⟨b, (bs s).toArray.size, none⟩ 1
  have hw' : w'.heap[b]? = some (.cells (bs s).toArray tt ((bs s).toArray.size, (bs s).toArray.size + 1)) := by
    simp only [w', World.freeze, Nat.one_ne_zero, if_false, Array.getElem?_modify, if_true]
    rw [ho]; simp
  have hother : ∀ j, j < w.heap.size → j ∉ [b] → w'.heap[j]? = w.heap[j]? := by
    intro j hj hm
    simp only [List.mem_singleton] at hm
    simp only [w', World.freeze, Nat.one_ne_zero, if_false, Array.getElem?_modify]
    rw [if_neg (by omega)]
  refine wl (h w' ⟨_, tt, _, _, hw', by simp only [bs]; exact List.take_of_length_le (by simp), by simp [bs]⟩ ⟨rfl, rfl, rfl, by simp [w', World.freeze], hother⟩) (Y.val ?_)
  simp only [execOp, hx, convert, underlying, Sem.run_bind, run_program, Result.andThen_ok, hu.ok, he.ok, Sem.run_pure, markStringish, run_shape, beq_self_eq_true]
  have hshape : w.shape? b = some (tt, (bs s).toArray.size) := by simp only [World.shape?, ho]
  rw [hshape]
  simp only [run_freeze, Result.andThen_ok, Sem.run_pure]
  rfl
/-- a rune as a text -/
theorem y_i2s {σ : Env} {d : Option Tmp} {g : Option (Nat × Bool)} {k : IntKind} {r : Nat} [hu : Und P t (.int k)] [hu' : Und P t' .string] (hx : evl σ x = .int k r) (hr : r < 128) : Y P σ ⟨d, .convert t t' x, ty, pos, af, g⟩ w (str [UInt8.ofNat r]) w := by
  refine Y.val ?_
  simp only [execOp, hx, convert, underlying, Sem.run_bind, run_program, Result.andThen_ok, hu.ok, hu'.ok, Sem.run_pure, Conv.intToString]
  have hv : Utf8.valid (r : Int) = true := by
    simp only [Utf8.valid, Bool.and_eq_true, Bool.or_eq_true, decide_eq_true_eq]; omega
  have e : Utf8.encode (r : Int) = ⟨[UInt8.ofNat r].toArray⟩ := by
    unfold Utf8.encode
    rw [if_pos hv]
    simp only [Int.toNat_natCast]
    rw [if_pos (by simpa using hr)]
  rw [e]
end
end Go.Sv
namespace Go.Proofs.YtffaoehhhdcjjaaDoor
open Go Go.Sv Go.RowKit

theorem digs_at : ∀ q : Nat, q < 16 → (digs.drop q).take 1 = [digs[q]?.getD 0] := by decide
theorem y_dig {P : Program} {σ : Env} {w : World} {d : Option Tmp} {ty t : TypeId} {pos : String} {af : Array Edge} {g : Option (Nat × Bool)} {x y z : Operand} {k k' : IntKind} {a b : Int} [hu : Und P t .string] (q : Nat) (hq : q < 16) (ha : a = q) (hb : b = q + 1) (hx : evl σ x = str digs) (hy : evl σ y = .int k a) (hz : evl σ z = .int k' b) :
    Y P σ ⟨d, .slice t x (some y) (some z) none, ty, pos, af, g⟩ w (str [digs[q]?.getD 0]) w := by
  subst ha hb
  have := y_ssliceI (P := P) (σ := σ) (w := w) (d := d) (ty := ty) (pos := pos) (af := af) (g := g) (t := t) hx hy hz (by simp only [digs, List.length_cons, List.length_nil]; omega)
  rw [show ((q : Int) + 1).toNat = q + 1 by omega, Int.toNat_natCast, show q + 1 - q = 1 by omega, digs_at q hq] at this
  exact this
theorem escB_ref (c : Nat) (cd : Bool) : (pkb (pkb (decide ((c : Int) ≤ 32)) true (decide ((127 : Int) ≤ c))) true (pkb (decide ((c : Int) = 37)) (!cd) false) || decide (UInt8.ofNat c ∈ badB)) = escB c cd := by
  unfold escB
  simp only [pkb_or, pkb_and]
  rw [show decide ((c : Int) ≤ 32) = decide (c ≤ 32) from decide_eq_decide.2 (by omega), show decide ((127 : Int) ≤ c) = decide (127 ≤ c) from decide_eq_decide.2 (by omega), show decide ((c : Int) = 37) = decide (c = 37) from decide_eq_decide.2 (by omega)]
  grind


















































































































set_option maxHeartbeats 2000000 in
theorem refDecode_ok (l : List UInt8) (hb : l.length ≤ 268435456) (w : World) : PureC Tryd.prog 85 #[str l] w (str (decodeR l)) := by
  refine enter (l := [str l]) Tryd.func85 rfl Tryd.ntmps85 (by kernel_rfl) rfl ?_
  refine sgo ?_
  refine wlpure (refMend_ok l (by omega) _) fun w1 hf1 => ?_
  have hml := mendR_len l
  unfold decodeR
  generalize mendR l = t at *
  refine sgo ?_
  refine wcloop (X := Nat × Option Addr × List UInt8 × Nat) (fun x => [(0, str t), (3, .slice x.2.1 x.2.2.1.length x.2.2.2), (4, int x.1)])
    (fun x wr => x.1 ≤ t.length ∧ x.2.2.1 ++ decL (t.drop x.1) = decL t ∧ x.2.2.1.length ≤ x.1 ∧ Row wr 1 x.2.1 x.2.2.1.length x.2.2.2 (bs x.2.2.1) ∧ (∀ k ∈ rb x.2.1, w.heap.size ≤ k) ∧ Frm w wr)
    (fun x => t.length - x.1) (0, none, [], 0) ⟨rfl, rfl, rfl, trivial⟩ ⟨by omega, by simp, by simp, Row.nil _ _, rb_nil _, hf1⟩ ?_
  rintro ⟨i, q, s, c⟩ wr ρ ⟨hi, he, hsl, hR, hq, hfr⟩
  dsimp only at hi he hsl hR hq ⊢
  refine sgo ?_
  (show WC _ _ _ _ _ _ _; first | refine WC_dec rfl (fun hc => ?_) (fun hc => ?_) | refine WC_cond rfl (fun hc => ?_) (fun hc => ?_))
  · have hil : i < t.length := by omega
    have h0 := at_lt t i
    refine sgo ?_
    refine wlcallgp (vals := [str t, int i]) (fun _ => hexes_ok t i hi (by omega) _) fun w2 hf2 => ?_
    replace hR := hR.frm hf2
    replace hfr := hfr.trans hf2
    refine sgo ?_
    (show WC _ _ _ _ _ _ _; first | refine WC_dec rfl (fun hc => ?_) (fun hc => ?_) | refine WC_cond rfl (fun hc => ?_) (fun hc => ?_))
    · simp only [pkb_and, Bool.and_eq_true, decide_eq_true_eq] at hc
      have hy := decL_yes t i hil (by simp only [at0]; omega) hc.2
      obtain ⟨g1, g2, g3⟩ := coded_hex hc.2
      have h1 := at_lt t (i + 1)
      have h2 := at_lt t (i + 2)
      have v1 := (valN_of g2).2
      have v2 := (valN_of g3).2
      have hor : (16 * (valN (at0 t (i + 1)) : Int) + valN (at0 t (i + 2))) = ((16 * valN (at0 t (i + 1)) + valN (at0 t (i + 2)) : Nat) : Int) := by omega
      refine WC_seq ?_
      refine wcdrawx 16 ?_
      refine qgo ?_
      refine qlcallp (fun w _ => hexv4_ok (at0 t (i + 1)) h1 g2 w) ?_
      refine qgo ?_
      refine qlcallp (fun w _ => hexv4_ok (at0 t (i + 2)) h2 g3 w) ?_
      refine qgo ?_
      refine QL_nil ?_
      refine qxb1_int fun b w3 hf3 hb3 ho3 => ?_
      rw [hor] at ho3
      have hbyt : 16 * valN (at0 t (i + 1)) + valN (at0 t (i + 2)) < 256 := by omega
      generalize 16 * valN (at0 t (i + 1)) + valN (at0 t (i + 2)) = x at *
      clear hor
      refine wlapp (news := bs [UInt8.ofNat x]) (hR.frm hf3) (by
        have e : bs [UInt8.ofNat x] = [byt x] := by simp [bs, Nat.mod_eq_of_lt hbyt]
        rw [e]; exact ho3.sg) (fun q' c' w4 hR4 hl4 => ?_) (hl := by simp [bs]) (h1 := by simp [bs, Value.oneCell'])
      have hfr4 := (hfr.trans hf3).step hl4.1 hq
      have hq4 := hl4.fresh (hfr.trans hf3) hq
      refine sgo ?_
      refine ⟨(i + 3, q', s ++ [UInt8.ofNat x], c'), ⟨rfl, ?_, ?_, trivial⟩, ⟨by dsimp only; omega, ?_, by simp; omega, ?_, hq4, hfr4⟩, by dsimp only; omega⟩
      · dsimp only; rw [List.length_append]; rfl
      · dsimp only; refine congrArg int ?_; omega
      · dsimp only; rw [← he, hy]; simp
      · dsimp only; rw [List.length_append, bs, List.map_append]; exact hR4
    · have hn : ¬ (at0 t i = 37 ∧ codedR t i = true) := by
        rintro ⟨g1, g2⟩
        rw [g2, pkb_and, Bool.and_true] at hc
        simp only [at0] at g1
        simp only [decide_eq_false_iff_not] at hc
        omega
      have hy := decL_no t i hil hn
      refine sgo ?_
      refine wlb1_int fun b w3 hb3 ho3 hf3 => ?_
      refine wlapp (news := bs [UInt8.ofNat (at0 t i)]) (hR.frm hf3) (by
        have e : bs [UInt8.ofNat (at0 t i)] = [byt (at0 t i)] := by simp [bs]
        rw [e]; exact ho3.sg) (fun q' c' w4 hR4 hl4 => ?_) (hl := by simp [bs]) (h1 := by simp [bs, Value.oneCell'])
      have hfr4 := (hfr.trans hf3).step hl4.1 hq
      have hq4 := hl4.fresh (hfr.trans hf3) hq
      refine sgo ?_
      refine ⟨(i + 1, q', s ++ [UInt8.ofNat (at0 t i)], c'), ⟨rfl, ?_, rfl, trivial⟩, ⟨by dsimp only; omega, ?_, by simp; omega, ?_, hq4, hfr4⟩, by dsimp only; omega⟩
      · dsimp only; rw [List.length_append]; rfl
      · dsimp only; rw [← he, hy]; simp
      · dsimp only; rw [List.length_append, bs, List.map_append]; exact hR4
  · obtain rfl : i = t.length := by omega
    have he' : s = decL t := by simpa [decL_nil] using he
    subst he'
    have hdl := decL_len _ t (Nat.le_refl _)
    refine sgo ?_
    refine wl ?_ (y_b2s rfl hR.sg)
    refine sgo ?_
    refine wlpure (refMend_ok (decL t) (by omega) _) fun w3 hf3 => ?_
    have hf' := hfr.trans hf3
    refine sgo ?_
    (first | refine fp1 (.inl rfl) rfl rfl ?_ | refine fp2 (.inl rfl) rfl rfl rfl ?_ | refine fp3 (.inl rfl) rfl rfl rfl rfl ?_ | refine fp0 (.inr rfl) rfl ?_ | refine fp0 (.inl rfl) rfl ?_ | refine fp1 (.inr rfl) rfl rfl ?_); refine ⟨?_, by (first | exact Frm.refl _ | assumption | (refine Frm.trans ?_ (by assumption); first | exact Frm.refl _ | assumption))⟩; (try simp only [realB, rv_true, Nat.reduceBEq, cond_true, cond_false, entG, real_lif, updGL])
end Go.Proofs.YtffaoehhhdcjjaaDoor

/-
  Package link: paths without dot segments; the twins.
-/
set_option linter.unusedSimpArgs false
set_option linter.unusedVariables false
set_option linter.unnecessarySimpa false
namespace Go.Sv
open Go Go.RowKit
section
variable {P : Program} {σ : Env} {w : World} {d : Option Tmp} {ty t t' : TypeId} {pos : String} {af : Array Edge} {g : Option (Nat × Bool)} {x y : Operand} {a b : Int} {ats : Array TypeId}
theorem y_max (hx : evl σ x = int a) (hy : evl σ y = int b) : Y P σ ⟨d, .call ⟨.builtin .max, #[x, y], ats⟩, ty, pos, af, g⟩ w (int (max a b)) w := by
  refine Y.val ?_; simp only [execOp, resolve, Sem.run_bind, Sem.run_pure, Result.andThen_ok, invoke, builtin]
  have e : (if b > a then b else a) = max a b := by omega
  simp [hx, hy, Builtin.max_, Builtin.max2, e]
end
end Go.Sv
namespace Go.Proofs.YtffaoehhhdcjjaaDoor
open Go Go.Sv Go.RowKit

/-- how many bytes stand ahead of the first of some -/
def upR (l sm : List UInt8) : Nat := (l.takeWhile fun c => decide (c ∉ sm)).length
theorem upR_le (l sm : List UInt8) : upR l sm ≤ l.length := (List.takeWhile_sublist _).length_le
theorem upR_cons (c : UInt8) (l sm : List UInt8) : upR (c :: l) sm = if c ∈ sm then 0 else upR l sm + 1 := by
  unfold upR
  rw [List.takeWhile_cons]
  by_cases h : c ∈ sm <;> simp [h]
theorem upR_at : ∀ (l sm : List UInt8) (i : Nat), i < l.length → (∀ j, j < i → UInt8.ofNat (at0 l j) ∉ sm) → UInt8.ofNat (at0 l i) ∈ sm → upR l sm = i
  | [], _, i, h, _, _ => by simp at h
  | c :: l, sm, 0, _, _, h => by
    rw [upR_cons, if_pos (by simpa [at0] using h)]
  | c :: l, sm, i + 1, hi, hj, h => by
    have h0 := hj 0 (by omega)
    rw [upR_cons, if_neg (by simpa [at0] using h0), upR_at l sm i (by simpa using hi) (fun j hj' => by have := hj (j + 1) (by omega); simpa [at0] using this) (by simpa [at0] using h)]
theorem upR_all : ∀ (l sm : List UInt8), (∀ j, j < l.length → UInt8.ofNat (at0 l j) ∉ sm) → upR l sm = l.length
  | [], _, _ => rfl
  | c :: l, sm, hj => by
    have h0 := hj 0 (by simp)
    rw [upR_cons, if_neg (by simpa [at0] using h0), upR_all l sm (fun j hj' => by have := hj (j + 1) (by simpa using hj'); simpa [at0] using this)]
    rfl
theorem indexByte_up : ∀ (l : List UInt8) (c : UInt8), Lib.indexByte l c = if c ∈ l then (upR l [c] : Int) else -1
  | [], c => by simp [Lib.indexByte]
  | b :: l, c => by
    have h := indexByte_up l c
    have hg := Lib.indexByte_ge l c
    simp only [Lib.indexByte, upR_cons, List.mem_cons, List.mem_singleton, List.not_mem_nil, or_false]
    by_cases hb : b = c
    · simp [hb]
    · have hb' : ¬ c = b := fun h => hb h.symm
      simp only [beq_iff_eq, hb, hb', if_false, false_or]
      by_cases hm : c ∈ l
      · rw [if_pos hm] at h ⊢
        rw [h, if_neg (by omega)]; omega
      · rw [if_neg hm] at h ⊢
        rw [h]; rfl
theorem up_not {l : List UInt8} {c : UInt8} (h : c ∉ l) : upR l [c] = l.length := by
  refine upR_all l [c] fun j hj hm => h ?_
  simp only [at0, List.getElem?_eq_getElem hj, Option.getD_some, List.mem_singleton] at hm
  rw [← hm]
  simp
theorem hasPrefix_ok (s p : List UInt8) (w : World) : PureC Tryd.prog 77 #[str s, str p] w (.bool (p.isPrefixOf s)) := by
  refine Calls.mono (Tryd.strings_HasPrefix ⟨s.toArray⟩ ⟨p.toArray⟩ w) ?_
  rintro e w' ⟨rfl, rfl⟩
  exact ⟨_, rfl, rfl, Frm.refl _⟩













/-- the last place below n where c stands -/
def lastF (l : List UInt8) (c : Nat) : Nat → Int
  | 0 => -1
  | n + 1 => if at0 l n = c then n else lastF l c n
def lastR (l : List UInt8) (c : Nat) : Int := lastF l c l.length
theorem lastF_rng (l : List UInt8) (c : Nat) : ∀ n, -1 ≤ lastF l c n ∧ lastF l c n < n
  | 0 => by simp [lastF]
  | n + 1 => by
    have := lastF_rng l c n
    simp only [lastF]
    split <;> omega
theorem last0_ok (l : List UInt8) (c : Nat) (hb : l.length ≤ 4611686018427387904) (w : World) : PureC Tryd.prog 86 #[str l, byt c] w (int (lastR l c)) := by
  refine enter (l := [str l, byt c]) Tryd.func86 rfl Tryd.ntmps86 (by kernel_rfl) rfl ?_
  refine sgo ?_
  refine wcloop (X := Nat) (fun x => [(0, str l), (1, byt c), (5, int ((x : Int) - 1))])
    (fun x wr => x ≤ l.length ∧ lastF l c x = lastR l c ∧ Frm w wr) (fun x => x) l.length ⟨rfl, rfl, rfl, trivial⟩ ⟨Nat.le_refl _, rfl, Frm.refl _⟩ ?_
  rintro x wr ρ ⟨hx, he, hfr⟩
  refine sgo ?_
  (show WC _ _ _ _ _ _ _; first | refine WC_dec rfl (fun hc => ?_) (fun hc => ?_) | refine WC_cond rfl (fun hc => ?_) (fun hc => ?_))
  · obtain ⟨k, rfl⟩ : ∃ k, x = k + 1 := ⟨x - 1, by omega⟩
    simp only [lastF] at he
    refine sgo ?_
    have e : (((k + 1 : Nat) : Int) - 1).toNat = k := by omega
    rw [e]
    (show WC _ _ _ _ _ _ _; first | refine WC_dec rfl (fun hc => ?_) (fun hc => ?_) | refine WC_cond rfl (fun hc => ?_) (fun hc => ?_))
    · rw [if_pos (by simp only [at0]; omega)] at he
      refine sgo ?_
      (first | refine fp1 (.inl rfl) rfl rfl ?_ | refine fp2 (.inl rfl) rfl rfl rfl ?_ | refine fp3 (.inl rfl) rfl rfl rfl rfl ?_ | refine fp0 (.inr rfl) rfl ?_ | refine fp0 (.inl rfl) rfl ?_ | refine fp1 (.inr rfl) rfl rfl ?_); refine ⟨?_, by (first | exact Frm.refl _ | assumption | (refine Frm.trans ?_ (by assumption); first | exact Frm.refl _ | assumption))⟩; (try simp only [realB, rv_true, Nat.reduceBEq, cond_true, cond_false, entG, real_lif, updGL])
      rw [← he]
      refine congrArg int ?_
      omega
    · rw [if_neg (by simp only [at0]; omega)] at he
      refine sgo ?_
      exact ⟨k, ⟨rfl, rfl, congrArg (fun n : Int => int (n - 1)) (by omega), trivial⟩, ⟨by omega, he, hfr⟩, by omega⟩
  · obtain rfl : x = 0 := by omega
    refine sgo ?_
    (first | refine fp1 (.inl rfl) rfl rfl ?_ | refine fp2 (.inl rfl) rfl rfl rfl ?_ | refine fp3 (.inl rfl) rfl rfl rfl rfl ?_ | refine fp0 (.inr rfl) rfl ?_ | refine fp0 (.inl rfl) rfl ?_ | refine fp1 (.inr rfl) rfl rfl ?_); refine ⟨?_, by (first | exact Frm.refl _ | assumption | (refine Frm.trans ?_ (by assumption); first | exact Frm.refl _ | assumption))⟩; (try simp only [realB, rv_true, Nat.reduceBEq, cond_true, cond_false, entG, real_lif, updGL])
    rw [← he]
    rfl
theorem last_ok (l : List UInt8) (c : Nat) (hb : l.length ≤ 4611686018427387904) (w : World) : PureC Tryd.prog 53 #[str l, byt c] w (int (lastR l c)) := by
  refine enter (l := [str l, byt c]) Tryd.func53 rfl Tryd.ntmps53 (by kernel_rfl) rfl ?_
  refine sgo ?_
  refine wlpure (last0_ok l c hb _) fun w1 hf1 => ?_
  refine sgo ?_
  (first | refine fp1 (.inl rfl) rfl rfl ?_ | refine fp2 (.inl rfl) rfl rfl rfl ?_ | refine fp3 (.inl rfl) rfl rfl rfl rfl ?_ | refine fp0 (.inr rfl) rfl ?_ | refine fp0 (.inl rfl) rfl ?_ | refine fp1 (.inr rfl) rfl rfl ?_); refine ⟨?_, by (first | exact Frm.refl _ | assumption | (refine Frm.trans ?_ (by assumption); first | exact Frm.refl _ | assumption))⟩; (try simp only [realB, rv_true, Nat.reduceBEq, cond_true, cond_false, entG, real_lif, updGL])
def parR (l : List UInt8) : List UInt8 := l.take (max (lastR l 47) 0).toNat
theorem parent_ok (l : List UInt8) (hb : l.length ≤ 4611686018427387904) (w : World) : PureC Tryd.prog 78 #[str l] w (str (parR l)) := by
  refine enter (l := [str l]) Tryd.func78 rfl Tryd.ntmps78 (by kernel_rfl) rfl ?_
  refine sgo ?_
  refine wlpure (last_ok l 47 hb _) fun w1 hf1 => ?_
  have hr := lastF_rng l 47 l.length
  unfold parR
  unfold lastR
  generalize lastF l 47 l.length = m at *
  refine sgo ?_
  refine wl ?_ (y_max rfl rfl)
  refine sgo ?_
  (first | refine fp1 (.inl rfl) rfl rfl ?_ | refine fp2 (.inl rfl) rfl rfl rfl ?_ | refine fp3 (.inl rfl) rfl rfl rfl rfl ?_ | refine fp0 (.inr rfl) rfl ?_ | refine fp0 (.inl rfl) rfl ?_ | refine fp1 (.inr rfl) rfl rfl ?_); refine ⟨?_, by (first | exact Frm.refl _ | assumption | (refine Frm.trans ?_ (by assumption); first | exact Frm.refl _ | assumption))⟩; (try simp only [realB, rv_true, Nat.reduceBEq, cond_true, cond_false, entG, real_lif, updGL])

def pfx (p l : List UInt8) : Bool := p.isPrefixOf l
/-- a segment's end -/
def segN (l : List UInt8) : Nat := 1 + upR (l.drop 1) [47]
def dotStep (l out : List UInt8) : List UInt8 × List UInt8 :=
  if pfx [46, 46, 47] l then (l.drop 3, out)
  else if pfx [46, 47] l then (l.drop 2, out)
  else if pfx [47, 46, 47] l then (l.drop 2, out)
  else if l = [47, 46] then ([47], out)
  else if pfx [47, 46, 46, 47] l then (l.drop 3, parR out)
  else if l = [47, 46, 46] then ([47], parR out)
  else if l = [46] ∨ l = [46, 46] then ([], out)
  else (l.drop (segN l), out ++ l.take (segN l))
def dotsF : Nat → List UInt8 → List UInt8 → List UInt8
  | 0, _, out => out
  | f + 1, l, out => if l = [] then out else dotsF f (dotStep l out).1 (dotStep l out).2
theorem pfx_len {p l : List UInt8} (h : pfx p l = true) : p.length ≤ l.length := (List.isPrefixOf_iff_prefix.1 h).length_le
theorem dotStep_lt (l out : List UInt8) (h : l ≠ []) : (dotStep l out).1.length < l.length := by
  have h0 : 0 < l.length := List.length_pos_iff.2 h
  unfold dotStep
  repeat' split
  all_goals rename_i h1
  all_goals (try have hp := pfx_len h1)
  all_goals (try simp only [List.length_cons, List.length_nil] at hp)
  all_goals (try simp only [List.length_drop, segN])
  all_goals (try omega)
  all_goals (try (subst h1; simp; done))
  all_goals (try (simp; omega))
theorem dotsF_more : ∀ (f f' : Nat) (l out : List UInt8), l.length ≤ f → l.length ≤ f' → dotsF f l out = dotsF f' l out
  | 0, 0, _, _, _, _ => rfl
  | 0, f' + 1, l, out, h, _ => by
    have : l = [] := List.eq_nil_of_length_eq_zero (by omega)
    simp [dotsF, this]
  | f + 1, 0, l, out, _, h => by
    have : l = [] := List.eq_nil_of_length_eq_zero (by omega)
    simp [dotsF, this]
  | f + 1, f' + 1, l, out, h, h' => by
    simp only [dotsF]
    split
    · rfl
    · rename_i hne
      have := dotStep_lt l out hne
      exact dotsF_more f f' _ _ (by omega) (by omega)
def dotsL (l out : List UInt8) : List UInt8 := dotsF l.length l out
theorem dotsL_nil (out : List UInt8) : dotsL [] out = out := rfl
theorem dotsL_step (l out : List UInt8) (h : l ≠ []) : dotsL l out = dotsL (dotStep l out).1 (dotStep l out).2 := by
  have h1 := dotStep_lt l out h
  unfold dotsL
  obtain ⟨f, hf⟩ : ∃ f, l.length = f + 1 := ⟨l.length - 1, by omega⟩
  rw [hf, dotsF, if_neg h]
  exact dotsF_more _ _ _ _ (by omega) (Nat.le_refl _)
theorem parR_len (l : List UInt8) : (parR l).length ≤ l.length := by simp only [parR, List.length_take]; omega
theorem dotStep_len (l out : List UInt8) : (dotStep l out).1.length + (dotStep l out).2.length ≤ l.length + out.length := by
  have h0 := parR_len out
  unfold dotStep
  repeat' split
  all_goals rename_i h1
  all_goals (try simp only [List.length_drop, List.length_append, List.length_take, List.length_nil])
  all_goals (try omega)
  all_goals (try (subst h1; simp; done))
  all_goals (try (subst h1; simp; omega))
end Go.Proofs.YtffaoehhhdcjjaaDoor

/-
  Package link: Dots, walked.
-/
set_option linter.unusedSimpArgs false
set_option linter.unusedVariables false
set_option linter.unnecessarySimpa false
namespace Go.Proofs.YtffaoehhhdcjjaaDoor
open Go Go.Sv Go.RowKit

set_option maxHeartbeats 2000000 in
theorem dots_ok (l0 : List UInt8) (hb : l0.length ≤ 1073741824) (w : World) : PureC Tryd.prog 42 #[str l0] w (str (dotsL (mendR l0) [])) := by
  refine enter (l := [str l0]) Tryd.func42 rfl Tryd.ntmps42 (by kernel_rfl) rfl ?_
  refine sgo ?_
  refine wlpure (mend_ok l0 hb _) fun w1 hf1 => ?_
  have hml := mendR_len l0
  generalize mendR l0 = t at *
  refine sgo ?_
  refine wcloop (X := List UInt8 × List UInt8) (fun x => [(0, str x.1), (3, str x.2)])
    (fun x wr => dotsL x.1 x.2 = dotsL t [] ∧ x.1.length + x.2.length ≤ t.length ∧ Frm w wr) (fun x => x.1.length) (t, []) ⟨rfl, rfl, trivial⟩ ⟨rfl, by simp, hf1⟩ ?_
  rintro ⟨l, o⟩ wr ρ ⟨he, hlen, hfr⟩
  dsimp only at he hlen ⊢
  refine sgo ?_
  (show WC _ _ _ _ _ _ _; first | refine WC_dec rfl (fun hc => ?_) (fun hc => ?_) | refine WC_cond rfl (fun hc => ?_) (fun hc => ?_))
  · have hne : l ≠ [] := by simpa using hc
    clear hc
    have h0 : 0 < l.length := List.length_pos_iff.2 hne
    have fin : ∀ l' o' w', dotStep l o = (l', o') → Frm w w' → (dotsL l' o' = dotsL t [] ∧ l'.length + o'.length ≤ t.length ∧ Frm w w') ∧ l'.length < l.length := by
      intro l' o' w' h hw'
      have h1 := dotsL_step l o hne
      have h2 := dotStep_lt l o hne
      have h3 := dotStep_len l o
      rw [h] at h1 h2 h3
      exact ⟨⟨by rw [← h1]; exact he, by dsimp only at h3; omega, hw'⟩, h2⟩
    clear he
    refine sgo ?_
    refine wlpure (hasPrefix_ok l [46, 46, 47] _) fun w2 hf2 => ?_
    replace hfr := hfr.trans hf2
    clear hf2
    cases g1 : pfx [46, 46, 47] l with
    | true =>
      have hl := pfx_len g1
      simp only [List.length_cons, List.length_nil] at hl
      have hds : dotStep l o = (l.drop 3, o) := by unfold dotStep; rw [if_pos g1]
      unfold pfx at g1
      rw [g1]
      refine sgo ?_
      exact ⟨(l.drop 3, o), ⟨rfl, rfl, trivial⟩, fin _ _ _ hds hfr⟩
    | false =>
    have g1' : [46, 46, 47].isPrefixOf l = false := g1
    rw [g1']
    refine sgo ?_
    refine wlpure (hasPrefix_ok l [46, 47] _) fun w3 hf3 => ?_
    replace hfr := hfr.trans hf3
    clear hf3
    cases g2 : pfx [46, 47] l with
    | true =>
      have hl := pfx_len g2
      simp only [List.length_cons, List.length_nil] at hl
      have hds : dotStep l o = (l.drop 2, o) := by unfold dotStep; simp only [g1, g2, if_true, Bool.false_eq_true, if_false]
      unfold pfx at g2
      rw [g2]
      refine sgo ?_
      exact ⟨(l.drop 2, o), ⟨rfl, rfl, trivial⟩, fin _ _ _ hds hfr⟩
    | false =>
    have g2' : [46, 47].isPrefixOf l = false := g2
    rw [g2']
    refine sgo ?_
    refine wlpure (hasPrefix_ok l [47, 46, 47] _) fun w4 hf4 => ?_
    replace hfr := hfr.trans hf4
    clear hf4
    cases g3 : pfx [47, 46, 47] l with
    | true =>
      have hl := pfx_len g3
      simp only [List.length_cons, List.length_nil] at hl
      have hds : dotStep l o = (l.drop 2, o) := by unfold dotStep; simp only [g1, g2, g3, if_true, Bool.false_eq_true, if_false]
      unfold pfx at g3
      rw [g3]
      refine sgo ?_
      exact ⟨(l.drop 2, o), ⟨rfl, rfl, trivial⟩, fin _ _ _ hds hfr⟩
    | false =>
    have g3' : [47, 46, 47].isPrefixOf l = false := g3
    rw [g3']
    refine sgo ?_
    (show WC _ _ _ _ _ _ _; first | refine WC_dec rfl (fun hc => ?_) (fun hc => ?_) | refine WC_cond rfl (fun hc => ?_) (fun hc => ?_))
    · have hds : dotStep l o = ([47], o) := by unfold dotStep; simp only [g1, g2, g3, if_true, Bool.false_eq_true, if_false]; rw [if_pos hc]
      refine sgo ?_
      exact ⟨([47], o), ⟨rfl, rfl, trivial⟩, fin _ _ _ hds hfr⟩
    have g4 := hc
    clear hc
    refine sgo ?_
    refine wlpure (hasPrefix_ok l [47, 46, 46, 47] _) fun w5 hf5 => ?_
    replace hfr := hfr.trans hf5
    clear hf5
    cases g5 : pfx [47, 46, 46, 47] l with
    | true =>
      have hl := pfx_len g5
      simp only [List.length_cons, List.length_nil] at hl
      have hds : dotStep l o = (l.drop 3, parR o) := by unfold dotStep; simp only [g1, g2, g3, g4, g5, if_true, Bool.false_eq_true, if_false]
      unfold pfx at g5
      rw [g5]
      refine sgo ?_
      refine wcdraw ?_
      refine qgo ?_
      refine qlcallp (fun w _ => parent_ok o (by omega) w) ?_
      refine qgo ?_
      refine QL_nil ?_
      intro wd hwd
      refine sgo ?_
      exact ⟨(l.drop 3, parR o), ⟨rfl, rfl, trivial⟩, fin _ _ _ hds (hfr.trans hwd)⟩
    | false =>
    have g5' : [47, 46, 46, 47].isPrefixOf l = false := g5
    rw [g5']
    refine sgo ?_
    (show WC _ _ _ _ _ _ _; first | refine WC_dec rfl (fun hc => ?_) (fun hc => ?_) | refine WC_cond rfl (fun hc => ?_) (fun hc => ?_))
    · have hds : dotStep l o = ([47], parR o) := by unfold dotStep; simp only [g1, g2, g3, g4, g5, if_true, Bool.false_eq_true, if_false]; rw [if_pos hc]
      refine sgo ?_
      refine wlpure (parent_ok o (by omega) _) fun w6 hf6 => ?_
      refine sgo ?_
      exact ⟨([47], parR o), ⟨rfl, rfl, trivial⟩, fin _ _ _ hds (hfr.trans hf6)⟩
    have g6 := hc
    clear hc
    refine sgo ?_
    (show WC _ _ _ _ _ _ _; first | refine WC_dec rfl (fun hc => ?_) (fun hc => ?_) | refine WC_cond rfl (fun hc => ?_) (fun hc => ?_))
    · have hds : dotStep l o = ([], o) := by
        unfold dotStep; simp only [g1, g2, g3, g4, g5, g6, if_true, Bool.false_eq_true, if_false]
        rw [if_pos (by simpa [pkb_or] using hc)]
      refine sgo ?_
      exact ⟨([], o), ⟨rfl, rfl, trivial⟩, fin _ _ _ hds hfr⟩
    have g7 : ¬ (l = [46] ∨ l = [46, 46]) := by simpa [pkb_or] using hc
    clear hc
    have hds : dotStep l o = (l.drop (segN l), o ++ l.take (segN l)) := by unfold dotStep; simp only [g1, g2, g3, g4, g5, g6, g7, if_true, Bool.false_eq_true, if_false]
    have hib := indexByte_up (l.drop 1) 47
    have hup := upR_le (l.drop 1) [47]
    have hnot := fun h : (47 : UInt8) ∉ l.drop 1 => up_not h
    have hdl : (l.drop 1).length = l.length - 1 := by simp
    unfold segN at hds
    refine sgo ?_
    refine wlpure (indexByte_ok (l.drop 1) 47 _) fun w6 hf6 => ?_
    rw [show UInt8.ofNat 47 = 47 from rfl, hib]
    replace hfr := hfr.trans hf6
    generalize upR (l.drop 1) [47] = m at *
    by_cases hm : (47 : UInt8) ∈ l.drop 1
    · rw [if_pos hm]
      clear hnot hib
      refine sgo ?_
      (show WC _ _ _ _ _ _ _; first | refine WC_dec rfl (fun hc => ?_) (fun hc => ?_) | refine WC_cond rfl (fun hc => ?_) (fun hc => ?_))
      · omega
      have e : ((m : Int) + 1).toNat = 1 + m := by omega
      refine sgo ?_
      exact ⟨(l.drop (1 + m), o ++ l.take (1 + m)), ⟨congrArg (fun n => str (List.drop n l)) e, congrArg (fun n => str (o ++ List.take n l)) e, trivial⟩, fin _ _ _ hds hfr⟩
    · have hmm := hnot hm
      rw [if_neg hm]
      clear hnot hib
      have e : ((l.length : Int) - 1 + 1).toNat = 1 + m := by omega
      refine sgo ?_
      exact ⟨(l.drop (1 + m), o ++ l.take (1 + m)), ⟨congrArg (fun n => str (List.drop n l)) e, congrArg (fun n => str (o ++ List.take n l)) e, trivial⟩, fin _ _ _ hds hfr⟩
  · have hne : l = [] := by simpa using hc
    subst hne
    rw [dotsL_nil] at he
    refine sgo ?_
    (first | refine fp1 (.inl rfl) rfl rfl ?_ | refine fp2 (.inl rfl) rfl rfl rfl ?_ | refine fp3 (.inl rfl) rfl rfl rfl rfl ?_ | refine fp0 (.inr rfl) rfl ?_ | refine fp0 (.inl rfl) rfl ?_ | refine fp1 (.inr rfl) rfl rfl ?_); refine ⟨?_, by (first | exact Frm.refl _ | assumption | (refine Frm.trans ?_ (by assumption); first | exact Frm.refl _ | assumption))⟩; (try simp only [realB, rv_true, Nat.reduceBEq, cond_true, cond_false, entG, real_lif, updGL])
    rw [he]
end Go.Proofs.YtffaoehhhdcjjaaDoor

/-
  Package sievelaw12: the document's examples.
-/
set_option linter.unusedSimpArgs false
set_option linter.unusedVariables false
set_option linter.unnecessarySimpa false
namespace Go.Proofs.YtffaoehhhdcjjaaDoor
open Go Go.Sv Go.RowKit

theorem aw1 : lowR ((stripR [32, 74, 97, 86, 97, 9, 115, 99, 114, 105, 112, 116, 58, 120]).take (schemeR (stripR [32, 74, 97, 86, 97, 9, 115, 99, 114, 105, 112, 116, 58, 120])).1) = [106, 97, 118, 97, 115, 99, 114, 105, 112, 116] := by decide +kernel
theorem aw2 : (schemeR (stripR [32, 74, 97, 86, 97, 9, 115, 99, 114, 105, 112, 116, 58, 120])).2 = true := by decide +kernel
theorem aw3 : encodeR [97, 32, 98, 37, 50, 103, 34, 195, 169] = [97, 37, 50, 48, 98, 37, 50, 53, 50, 103, 37, 50, 50, 37, 67, 51, 37, 65, 57] := by decide +kernel
theorem aw4 : dotsL (mendR [47, 97, 47, 98, 47, 99, 47, 46, 47, 46, 46, 47, 46, 46, 47, 103]) [] = [47, 97, 47, 103] := by decide +kernel
theorem awake_ok (w : World) : PureC Tryd.prog 16 #[] w (.bool true) := by
  refine enter (l := []) Tryd.func16 rfl Tryd.ntmps16 (by kernel_rfl) rfl ?_
  refine sgo ?_
  refine wlpure (scheme2_ok [32, 74, 97, 86, 97, 9, 115, 99, 114, 105, 112, 116, 58, 120] (by decide) _) fun w1 hf1 => ?_
  rw [aw1, aw2]
  refine sgo ?_
  refine wlcallgp (vals := [str [97, 32, 98, 37, 50, 103, 34, 195, 169]]) (fun _ => encode_ok [97, 32, 98, 37, 50, 103, 34, 195, 169] (by decide) _) fun w2 hf2 => ?_
  rw [aw3]
  have hf2' := hf1.trans hf2
  refine sgo ?_
  refine wlcallgp (vals := [str [47, 97, 47, 98, 47, 99, 47, 46, 47, 46, 46, 47, 46, 46, 47, 103]]) (fun _ => dots_ok [47, 97, 47, 98, 47, 99, 47, 46, 47, 46, 46, 47, 46, 46, 47, 103] (by decide) _) fun w3 hf3 => ?_
  rw [aw4]
  have hf3' := hf2'.trans hf3
  refine sgo ?_
  (first | refine fp1 (.inl rfl) rfl rfl ?_ | refine fp2 (.inl rfl) rfl rfl rfl ?_ | refine fp3 (.inl rfl) rfl rfl rfl rfl ?_ | refine fp0 (.inr rfl) rfl ?_ | refine fp0 (.inl rfl) rfl ?_ | refine fp1 (.inr rfl) rfl rfl ?_); refine ⟨?_, by (first | exact Frm.refl _ | assumption | (refine Frm.trans ?_ (by assumption); first | exact Frm.refl _ | assumption))⟩; (try simp only [realB, rv_true, Nat.reduceBEq, cond_true, cond_false, entG, real_lif, updGL])
  rfl
theorem num12_ok (k : Int) (w : World) : PureC Tryd.prog 13 #[int k] w (int k) := by
  refine enter (l := [int k]) Tryd.func13 rfl Tryd.ntmps13 (by kernel_rfl) rfl ?_
  refine sgo ?_
  (first | refine fp1 (.inl rfl) rfl rfl ?_ | refine fp2 (.inl rfl) rfl rfl rfl ?_ | refine fp3 (.inl rfl) rfl rfl rfl rfl ?_ | refine fp0 (.inr rfl) rfl ?_ | refine fp0 (.inl rfl) rfl ?_ | refine fp1 (.inr rfl) rfl rfl ?_); refine ⟨?_, by (first | exact Frm.refl _ | assumption | (refine Frm.trans ?_ (by assumption); first | exact Frm.refl _ | assumption))⟩; (try simp only [realB, rv_true, Nat.reduceBEq, cond_true, cond_false, entG, real_lif, updGL])










end Go.Proofs.YtffaoehhhdcjjaaDoor

/-
  Texts cut and joined: what is valid stays so.
-/
set_option linter.unusedSimpArgs false
set_option linter.unusedVariables false
set_option linter.unnecessarySimpa false
namespace Go.Proofs.YtffaoehhhdcjjaaDoor
open Go Go.Sv Go.RowKit
theorem valid_runes {l : List UInt8} (h : validR l = true) : ∃ rs : List Nat, (∀ r ∈ rs, Good r) ∧ l = rs.flatMap encR := ⟨runesN l, runesN_good l, (mendR_id h).symm⟩
theorem at_app_l {a b : List UInt8} {i : Nat} (h : i < a.length) : at0 (a ++ b) i = at0 a i := by simp only [at0, List.getElem?_append_left h]
theorem at_app_r {a b : List UInt8} {i : Nat} (h : a.length ≤ i) : at0 (a ++ b) i = at0 b (i - a.length) := by simp only [at0, List.getElem?_append_right h]
theorem enc_hi (r : Nat) (h1 : 128 ≤ r) (h2 : r < 1114112) : ∀ i, i < (encR r).length → 128 ≤ at0 (encR r) i := by
  intro i hi
  have hlt := encN_lt r h2
  have hi' : i < (encN r).length := by rwa [encR_len] at hi
  have e : at0 (encR r) i = (encN r)[i] := by
    have := hlt _ (List.getElem_mem hi')
    simp only [at0, encR, List.getElem?_map, List.getElem?_eq_getElem hi', Option.map_some, Option.getD_some]
    exact UInt8.toNat_ofNat_of_lt' (by simpa using this)
  rw [e]
  have hm : ∀ x ∈ encN r, 128 ≤ x := by
    intro x hx
    unfold encN at hx
    repeat' split at hx
    all_goals simp only [List.mem_cons, List.not_mem_nil, or_false] at hx
    all_goals omega
  exact hm _ (List.getElem_mem hi')
theorem flat_cut : ∀ (rs : List Nat), (∀ r ∈ rs, Good r) → ∀ n : Nat, n ≤ (rs.flatMap encR).length → (n = 0 ∨ at0 (rs.flatMap encR) (n - 1) < 128) →
    ∃ ra rb : List Nat, rs = ra ++ rb ∧ (rs.flatMap encR).take n = ra.flatMap encR ∧ (rs.flatMap encR).drop n = rb.flatMap encR
  | [], _, n, hn, _ => ⟨[], [], rfl, by simp, by simp⟩
  | r :: rs, hg, n, hn, ha => by
    have hr := hg r List.mem_cons_self
    rcases Nat.eq_zero_or_pos n with rfl | hpos
    · exact ⟨[], r :: rs, rfl, by simp, by simp⟩
    · have ha' : at0 ((r :: rs).flatMap encR) (n - 1) < 128 := by rcases ha with h | h; omega; exact h
      simp only [List.flatMap_cons] at hn ha' ⊢
      have hl1 := encR_len4 r
      rcases Nat.lt_or_ge (encR r).length n with h | h
      · rw [at_app_r (by omega)] at ha'
        obtain ⟨ra, rb, h1, h2, h3⟩ := flat_cut rs (fun x hx => hg x (List.mem_cons_of_mem _ hx)) (n - (encR r).length) (by simp only [List.length_append] at hn; omega) (.inr (by rwa [show n - (encR r).length - 1 = n - 1 - (encR r).length from by omega]))
        refine ⟨r :: ra, rb, by rw [h1]; rfl, ?_, ?_⟩
        · rw [List.take_append, List.take_of_length_le (by omega), h2, List.flatMap_cons]
        · rw [List.drop_append, List.drop_eq_nil_of_le (by omega), h3, List.nil_append]
      · rw [at_app_l (by omega)] at ha'
        have hr128 : r < 128 := by
          rcases Nat.lt_or_ge r 128 with h1 | h1
          · exact h1
          · have := enc_hi r h1 hr.1 (n - 1) (by omega)
            omega
        have hlen : (encR r).length = 1 := by rw [encR_len]; unfold encN; rw [if_pos hr128]; rfl
        obtain rfl : n = 1 := by omega
        refine ⟨[r], rs, rfl, ?_, ?_⟩
        · rw [List.take_append, List.take_of_length_le (by omega), hlen]; simp
        · rw [List.drop_append, List.drop_eq_nil_of_le (by omega), hlen]; simp
theorem valid_cut {l : List UInt8} (h : validR l = true) (n : Nat) (hn : n ≤ l.length) (ha : n = 0 ∨ at0 l (n - 1) < 128) : validR (l.take n) = true ∧ validR (l.drop n) = true := by
  obtain ⟨rs, hg, rfl⟩ := valid_runes h
  obtain ⟨ra, rb, h1, h2, h3⟩ := flat_cut rs hg n hn ha
  rw [h2, h3]
  exact ⟨valid_flat _ fun r hr => hg r (by rw [h1]; exact List.mem_append_left _ hr), valid_flat _ fun r hr => hg r (by rw [h1]; exact List.mem_append_right _ hr)⟩
theorem valid_app {a b : List UInt8} (ha : validR a = true) (hb : validR b = true) : validR (a ++ b) = true := by
  obtain ⟨ra, ga, rfl⟩ := valid_runes ha
  obtain ⟨rb, gb, rfl⟩ := valid_runes hb
  rw [← List.flatMap_append]
  exact valid_flat _ fun r hr => by rcases List.mem_append.1 hr with h | h; exact ga r h; exact gb r h
theorem valid_one (c : Nat) (hc : c < 128) : validR [UInt8.ofNat c] = true := by
  have e : [UInt8.ofNat c] = [c].flatMap encR := by simp [encR, encN, hc]
  rw [e]
  exact valid_flat _ fun r hr => by simp only [List.mem_singleton] at hr; subst hr; unfold Good; omega
end Go.Proofs.YtffaoehhhdcjjaaDoor

/-
  Texts stripped byte by byte: the plain law; sieveref12.Strip.
-/
set_option linter.unusedSimpArgs false
set_option linter.unusedVariables false
set_option linter.unnecessarySimpa false
namespace Go.Proofs.YtffaoehhhdcjjaaDoor
open Go Go.Sv Go.RowKit
/-- bytes up to a blank off the front -/
def bcutL (l : List UInt8) : List UInt8 := l.dropWhile fun c => decide (c.toNat ≤ 32)
def bcutT (l : List UInt8) : List UInt8 := (bcutL l.reverse).reverse
def bkeep (l : List UInt8) : List UInt8 := l.filter fun c => decide (c.toNat ≠ 9 ∧ c.toNat ≠ 10 ∧ c.toNat ≠ 13)
def bstrip (l : List UInt8) : List UInt8 := bkeep (bcutT (bcutL l))
theorem enc_low (r : Nat) (h : r < 128) : encR r = [UInt8.ofNat r] := by simp [encR, encN, h]
theorem enc_first (r : Nat) (hg : Good r) (h : 128 ≤ r) : ∀ x ∈ encR r, 128 ≤ x.toNat := by
  intro x hx
  obtain ⟨i, hi, rfl⟩ := List.mem_iff_getElem.1 hx
  have := enc_hi r h hg.1 i hi
  simpa [at0, hi] using this
theorem bcutL_flat : ∀ rs : List Nat, (∀ r ∈ rs, Good r) → bcutL (rs.flatMap encR) = (cutL rs).flatMap encR
  | [], _ => rfl
  | r :: rs, hg => by
    have hr := hg r List.mem_cons_self
    have ih := bcutL_flat rs fun x hx => hg x (List.mem_cons_of_mem _ hx)
    rcases Nat.lt_or_ge r 128 with h | h
    · rw [List.flatMap_cons, enc_low r h, List.singleton_append]
      have e : (UInt8.ofNat r).toNat = r := UInt8.toNat_ofNat_of_lt' (by have h256 : r < 256 := (by omega); simpa using h256)
      by_cases h32 : r ≤ 32
      · simp only [bcutL, cutL, List.dropWhile_cons, e, h32, decide_true, if_true]
        exact ih
      · simp only [bcutL, cutL, List.dropWhile_cons, e, h32, decide_false, Bool.false_eq_true, if_false]
        rw [List.flatMap_cons, enc_low r h, List.singleton_append]
    · have h1 := enc_first r hr h
      have hl := encR_len4 r
      have h32 : ¬ r ≤ 32 := by omega
      simp only [cutL, List.dropWhile_cons, h32, decide_false, Bool.false_eq_true, if_false, List.flatMap_cons]
      cases he : encR r with
      | nil => rw [he] at hl; simp at hl
      | cons c t =>
        have hc := h1 c (by rw [he]; exact List.mem_cons_self)
        have hc32 : ¬ c.toNat ≤ 32 := by omega
        simp only [bcutL, List.cons_append, List.dropWhile_cons, hc32, decide_false, Bool.false_eq_true, if_false]
theorem bcutL_rev : ∀ rs : List Nat, (∀ r ∈ rs, Good r) → bcutL (rs.flatMap fun r => (encR r).reverse) = (cutL rs).flatMap fun r => (encR r).reverse
  | [], _ => rfl
  | r :: rs, hg => by
    have hr := hg r List.mem_cons_self
    have ih := bcutL_rev rs fun x hx => hg x (List.mem_cons_of_mem _ hx)
    rcases Nat.lt_or_ge r 128 with h | h
    · rw [List.flatMap_cons, enc_low r h, List.reverse_singleton, List.singleton_append]
      have e : (UInt8.ofNat r).toNat = r := UInt8.toNat_ofNat_of_lt' (by have h256 : r < 256 := (by omega); simpa using h256)
      by_cases h32 : r ≤ 32
      · simp only [bcutL, cutL, List.dropWhile_cons, e, h32, decide_true, if_true]
        exact ih
      · simp only [bcutL, cutL, List.dropWhile_cons, e, h32, decide_false, Bool.false_eq_true, if_false]
        rw [List.flatMap_cons, enc_low r h, List.reverse_singleton, List.singleton_append]
    · have h1 := enc_first r hr h
      have hl := encR_len4 r
      have h32 : ¬ r ≤ 32 := by omega
      simp only [cutL, List.dropWhile_cons, h32, decide_false, Bool.false_eq_true, if_false, List.flatMap_cons]
      cases he : (encR r).reverse with
      | nil => have := congrArg List.length he; simp at this; rw [this] at hl; simp at hl
      | cons c t =>
        have hc := h1 c (List.mem_reverse.1 (by rw [he]; exact List.mem_cons_self))
        have hc32 : ¬ c.toNat ≤ 32 := by omega
        simp only [bcutL, List.cons_append, List.dropWhile_cons, hc32, decide_false, Bool.false_eq_true, if_false]
theorem rev_flat : ∀ rs : List Nat, (rs.flatMap encR).reverse = rs.reverse.flatMap fun r => (encR r).reverse
  | [] => rfl
  | r :: rs => by rw [List.flatMap_cons, List.reverse_append, rev_flat rs, List.reverse_cons, List.flatMap_append]; simp
theorem rev_flat2 (rs : List Nat) : (rs.flatMap fun r => (encR r).reverse).reverse = rs.reverse.flatMap encR := by
  have h := rev_flat rs.reverse
  rw [List.reverse_reverse] at h
  rw [← h, List.reverse_reverse]
theorem bcutT_flat (rs : List Nat) (hg : ∀ r ∈ rs, Good r) : bcutT (rs.flatMap encR) = (cutT rs).flatMap encR := by
  unfold bcutT cutT
  rw [rev_flat, bcutL_rev _ (fun r hr => hg r (List.mem_reverse.1 hr)), rev_flat2]
theorem bkeep_flat : ∀ rs : List Nat, (∀ r ∈ rs, Good r) → bkeep (rs.flatMap encR) = (keepN rs).flatMap encR
  | [], _ => rfl
  | r :: rs, hg => by
    have hr := hg r List.mem_cons_self
    have ih := bkeep_flat rs fun x hx => hg x (List.mem_cons_of_mem _ hx)
    unfold bkeep keepN at *
    rw [List.flatMap_cons, List.filter_append, ih]
    rcases Nat.lt_or_ge r 128 with h | h
    · rw [enc_low r h]
      have e : (UInt8.ofNat r).toNat = r := UInt8.toNat_ofNat_of_lt' (by have h256 : r < 256 := (by omega); simpa using h256)
      by_cases hk : r ≠ 9 ∧ r ≠ 10 ∧ r ≠ 13
      · rw [List.filter_cons_of_pos (by rw [e]; simpa using hk), List.filter_cons_of_pos (by simpa using hk), List.flatMap_cons, enc_low r h]; rfl
      · rw [List.filter_cons_of_neg (by rw [e]; simpa using hk), List.filter_cons_of_neg (by simpa using hk)]; rfl
    · have h1 := enc_first r hr h
      rw [List.filter_eq_self.2 (fun x hx => by have := h1 x hx; simp; omega), List.filter_cons_of_pos (by simp; omega), List.flatMap_cons]
theorem bstrip_flat (rs : List Nat) (hg : ∀ r ∈ rs, Good r) : bstrip (rs.flatMap encR) = (stripN rs).flatMap encR := by
  unfold bstrip stripN
  have h1 : ∀ r ∈ cutL rs, Good r := fun r hr => hg r (cutL_mem hr)
  have h2 : ∀ r ∈ cutT (cutL rs), Good r := fun r hr => h1 r (cutT_mem hr)
  rw [bcutL_flat rs hg, bcutT_flat _ h1, bkeep_flat _ h2]
theorem bstrip_mend (l : List UInt8) : bstrip (mendR l) = stripR l := bstrip_flat _ (runesN_good l)

theorem bcutL_at (l : List UInt8) (h0 : 0 < l.length) : bcutL l = if at0 l 0 ≤ 32 then bcutL (l.drop 1) else l := by
  cases l with
  | nil => simp at h0
  | cons c t =>
    simp only [bcutL, at0, List.getElem?_cons_zero, Option.getD_some, List.drop_succ_cons, List.drop_zero, List.dropWhile_cons]
    by_cases h : c.toNat ≤ 32 <;> simp [h]
theorem bcutT_at (l : List UInt8) (n : Nat) (hn : n < l.length) : bcutT (l.take (n + 1)) = if at0 l n ≤ 32 then bcutT (l.take n) else l.take (n + 1) := by
  have e : l.take (n + 1) = l.take n ++ [l[n]] := by rw [List.take_add_one, List.getElem?_eq_getElem hn]; rfl
  have ea : at0 l n = l[n].toNat := by simp [at0, hn]
  rw [ea]
  unfold bcutT
  rw [e, List.reverse_append, List.reverse_singleton, List.singleton_append]
  simp only [bcutL, List.dropWhile_cons]
  by_cases h : l[n].toNat ≤ 32
  · simp [h]
  · simp [h]
end Go.Proofs.YtffaoehhhdcjjaaDoor

