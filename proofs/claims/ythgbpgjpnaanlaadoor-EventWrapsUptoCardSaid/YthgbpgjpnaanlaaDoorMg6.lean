/-
  Our texts SvEvC, SvEvN, SvEvW, SvLkE, SvEvX, SvRf, SvEvY, SvEq, SvTabE, SvEvE, SvEvO, SvEvP, SvEvZ, SvEvQ, SvEvR, SvEvS, joined.
-/
import Derived.Test.YthgbpgjpnaanlaaDoorMg5
import Derived.Laws.StructEq
import Derived.Test.YthgbpgjpnaanlaaDoorRows
/-
  Packages event and sieveref18: which events may be.
-/
set_option linter.unusedSimpArgs false
set_option linter.unusedVariables false
set_option linter.unnecessarySimpa false
namespace Go.Sv
open Go Go.RowKit
section
variable {P : Program} {n : Nat} {ds : Ctx} {ops : Array Oper} {Q : Exit → Ctx → Env → World → Prop} {rest : List Oper} {σ : GE} {w : World} {d : Nat} {ty t : TypeId} {pos : String} {af : Array Edge} {zv : Value} {size bytes : Nat} {j dj : Nat} {want b c : Bool}
theorem bm2 {σ : Env} {x y : Operand} {v u : Value} {i k : Nat} (h : evl σ x = v) (h2 : evl σ y = u) : [(i, x), (k, y)].map (fun p => (p.1, evl σ p.2)) = [(i, v), (k, u)] := by simp [h, h2]
theorem bm3 {σ : Env} {x y z : Operand} {v u r : Value} {i k m : Nat} (h : evl σ x = v) (h2 : evl σ y = u) (h3 : evl σ z = r) : [(i, x), (k, y), (m, z)].map (fun p => (p.1, evl σ p.2)) = [(i, v), (k, u), (m, r)] := by simp [h, h2, h3]
/-- a guarded literal of a struct -/
theorem wlgbuildv {pl : List (Nat × Nat)} {ps : List (Nat × Operand)} {vals : List (Nat × Value)} {cells : List Value} [hf : Flds P t pl] [hi : Inf P t zv size bytes]
    (hv : (b && (c == want)) = true → ps.map (fun p => (p.1, evl (real σ) p.2)) = vals)
    (h : WL P n ds ops Q rest (real (updG σ d ⟨.agg cells.toArray, b && (c == want)⟩)) w)
    (hc : fillL pl zv.cells.toList vals = some cells := by
      simp [Go.Sv.fillL, Go.Sv.setSeg, Go.Value.cells]
      first | done | rfl)
    (hj : (ops[j]?).bind (·.dst) = some dj := by rfl) (hσ : σ dj = ⟨.bool c, b⟩ := by rfl) :
    WL P n ds ops Q (⟨some d, .build t ps.toArray, ty, pos, af, some (j, want)⟩ :: rest) (real σ) w :=
  wlg h hj hσ fun hg => y_build (by rw [hv hg]; exact hc)
end
end Go.Sv
namespace Go.Proofs.YthgbpgjpnaanlaaDoor
open Go Go.Sv Go.RowKit

/-- may an event be? -/
def evR (e : Ev) : Bool :=
  if e.kind = 0 then !decide (e.text = []) && validR e.text && decide (e.name = []) && decide (e.attrs.length = 0)
  else if e.kind = 1 then decide (e.text = []) && mayR e.start && !voidR e.name
  else if e.kind = 3 then decide (e.text = []) && mayR e.start && voidR e.name
  else if e.kind = 2 then decide (e.text = []) && decide (e.attrs.length = 0) && mayR e.close
  else false

set_option maxHeartbeats 1000000 in
theorem evStart_ok (e : Ev) (p : Option Addr) (c : Nat) (hs : e.small) (w : World) (hi : Im [] w p (e.attrs.flatMap At.cells)) :
    PureC Tryd.prog 57 #[.agg ⟨e.cells p c⟩] w (.bool (mayR e.start)) := by
  obtain ⟨k, nm, tx, es⟩ := e
  refine enter (l := [.agg ⟨Ev.cells ⟨k, nm, tx, es⟩ p c⟩]) Tryd.func57 rfl Tryd.ntmps57 (by kernel_rfl) rfl ?_
  have hS := Sep.start w
  refine sgo ?_
  refine sbox (v := .agg ⟨Ev.cells ⟨k, nm, tx, es⟩ p c⟩) hS fun b w1 hS => ?_
  replace hS : Sep w w1 [pOwn b [int k, str nm, str tx, .slice p es.length c]] := hS
  refine sgo ?_
  refine wlbuild ?_
  refine wlpure (check_ok (Ev.start ⟨k, nm, tx, es⟩) p c (Ev.start_small hs) w1 (hi.sep hS)) fun w2 hf2 => ?_
  replace hS := hS.grow hf2
  refine sgo ?_
  (first | refine fp1 (.inl rfl) rfl rfl ?_ | refine fp2 (.inl rfl) rfl rfl rfl ?_ | refine fp3 (.inl rfl) rfl rfl rfl rfl ?_ | refine fp0 (.inr rfl) rfl ?_ | refine fp0 (.inl rfl) rfl ?_ | refine fp1 (.inr rfl) rfl rfl ?_); refine ⟨?_, by (first | exact Frm.refl _ | assumption | exact Go.Sv.Sep.frm (by assumption) | (refine Frm.trans ?_ (by assumption); first | exact Frm.refl _ | assumption))⟩; (try simp only [realB, rv_true, Nat.reduceBEq, cond_true, cond_false, entG, real_lif, updGL])
  cases mayR (Ev.start ⟨k, nm, tx, es⟩) <;> rfl
set_option maxHeartbeats 4000000 in
theorem evCheck_ok (e : Ev) (p : Option Addr) (c : Nat) (hs : e.small) (w : World) (hA : Asc w) (hi : Im [] w p (e.attrs.flatMap At.cells)) :
    PureC Tryd.prog 33 #[.agg ⟨e.cells p c⟩] w (int (if evR e then 0 else 180)) := by
  have hev : evR e = evR e := rfl
  obtain ⟨k, nm, tx, es⟩ := e
  have htx := hs.text
  dsimp only at htx hi
  conv at hev => lhs; unfold evR
  dsimp only at hev
  refine enter (l := [.agg ⟨Ev.cells ⟨k, nm, tx, es⟩ p c⟩]) Tryd.func33 rfl Tryd.ntmps33 (by kernel_rfl) rfl ?_
  have hS := Sep.start w
  refine sgo ?_
  refine sbox (v := .agg ⟨Ev.cells ⟨k, nm, tx, es⟩ p c⟩) hS fun b w1 hS => ?_
  replace hS : Sep w w1 [pOwn b [int k, str nm, str tx, .slice p es.length c]] := hS
  refine sgo ?_
  (show WC _ _ _ _ _ _ _; first | refine WC_dec rfl (fun hc => ?_) (fun hc => ?_) | refine WC_cond rfl (fun hc => ?_) (fun hc => ?_))
  · replace hc : k = 0 := hc
    subst hc
    refine sgo ?_
    refine wls2bg (s := tx) (by omega) fun q cc w2 hI hf2 => ?_
    refine wlcallgp (vals := [.slice (pb q) tx.length cc]) (fun hg => valid_ok tx (pb q) tx.length cc rfl (hI hg).1 (by omega) [] w2 (hI hg).2.2) fun w3 hf3 => ?_
    rw [valid_eq]
    replace hS := (hS.grow hf2).grow hf3
    refine sgo ?_
    have hB : pkb (pkb (pkb (decide (tx ≠ [])) (validR tx) false) (decide (nm = [])) false) (decide ((es.length : Int) = 0)) false = evR ⟨0, nm, tx, es⟩ := by
      rw [← hev, if_pos rfl]; simp [pkb_and]
    rw [hB]
    cases evR ⟨0, nm, tx, es⟩ <;> (refine sgo ?_; (first | refine fp1 (.inl rfl) rfl rfl ?_ | refine fp2 (.inl rfl) rfl rfl rfl ?_ | refine fp3 (.inl rfl) rfl rfl rfl rfl ?_ | refine fp0 (.inr rfl) rfl ?_ | refine fp0 (.inl rfl) rfl ?_ | refine fp1 (.inr rfl) rfl rfl ?_); refine ⟨?_, by (first | exact Frm.refl _ | assumption | exact Go.Sv.Sep.frm (by assumption) | (refine Frm.trans ?_ (by assumption); first | exact Frm.refl _ | assumption))⟩; (try simp only [realB, rv_true, Nat.reduceBEq, cond_true, cond_false, entG, real_lif, updGL]); first | rfl | (simp; done))
  replace hc : ¬ k = 0 := hc
  rw [if_neg hc] at hev
  have hk0 := hc
  clear hc
  refine sgo ?_
  (show WC _ _ _ _ _ _ _; first | refine WC_dec rfl (fun hc => ?_) (fun hc => ?_) | refine WC_cond rfl (fun hc => ?_) (fun hc => ?_))
  · replace hc : k = 1 := hc
    subst hc
    refine sgo ?_
    refine wlcallgp (vals := [.agg ⟨Ev.cells ⟨1, nm, tx, es⟩ p c⟩]) (fun hg => evStart_ok ⟨1, nm, tx, es⟩ p c hs w1 (hi.sep hS)) fun w3 hf3 => ?_
    replace hS := hS.grow hf3
    refine sgo ?_
    refine wlcallgp (vals := [str nm, int 0]) (fun hg => in0_ok nm w3 (hA.frm hS.frm)) fun w4 hf4 => ?_
    replace hS := hS.grow hf4
    refine sgo ?_
    have hB : pkb (pkb (decide (tx = [])) (mayR (Ev.start ⟨1, nm, tx, es⟩)) false) (!voidR nm) false = evR ⟨1, nm, tx, es⟩ := by
      rw [← hev, if_pos rfl]; simp [pkb_and]
    rw [hB]
    cases evR ⟨1, nm, tx, es⟩ <;> (refine sgo ?_; (first | refine fp1 (.inl rfl) rfl rfl ?_ | refine fp2 (.inl rfl) rfl rfl rfl ?_ | refine fp3 (.inl rfl) rfl rfl rfl rfl ?_ | refine fp0 (.inr rfl) rfl ?_ | refine fp0 (.inl rfl) rfl ?_ | refine fp1 (.inr rfl) rfl rfl ?_); refine ⟨?_, by (first | exact Frm.refl _ | assumption | exact Go.Sv.Sep.frm (by assumption) | (refine Frm.trans ?_ (by assumption); first | exact Frm.refl _ | assumption))⟩; (try simp only [realB, rv_true, Nat.reduceBEq, cond_true, cond_false, entG, real_lif, updGL]); first | rfl | (simp; done))
  replace hc : ¬ k = 1 := hc
  rw [if_neg hc] at hev
  have hk1 := hc
  clear hc
  refine sgo ?_
  (show WC _ _ _ _ _ _ _; first | refine WC_dec rfl (fun hc => ?_) (fun hc => ?_) | refine WC_cond rfl (fun hc => ?_) (fun hc => ?_))
  · replace hc : k = 3 := hc
    subst hc
    refine sgo ?_
    refine wlcallgp (vals := [.agg ⟨Ev.cells ⟨3, nm, tx, es⟩ p c⟩]) (fun hg => evStart_ok ⟨3, nm, tx, es⟩ p c hs w1 (hi.sep hS)) fun w3 hf3 => ?_
    replace hS := hS.grow hf3
    refine sgo ?_
    refine wlcallgp (vals := [str nm, int 0]) (fun hg => in0_ok nm w3 (hA.frm hS.frm)) fun w4 hf4 => ?_
    replace hS := hS.grow hf4
    refine sgo ?_
    have hB : pkb (pkb (decide (tx = [])) (mayR (Ev.start ⟨3, nm, tx, es⟩)) false) (voidR nm) false = evR ⟨3, nm, tx, es⟩ := by
      rw [← hev, if_pos rfl]; simp [pkb_and]
    rw [hB]
    cases evR ⟨3, nm, tx, es⟩ <;> (refine sgo ?_; (first | refine fp1 (.inl rfl) rfl rfl ?_ | refine fp2 (.inl rfl) rfl rfl rfl ?_ | refine fp3 (.inl rfl) rfl rfl rfl rfl ?_ | refine fp0 (.inr rfl) rfl ?_ | refine fp0 (.inl rfl) rfl ?_ | refine fp1 (.inr rfl) rfl rfl ?_); refine ⟨?_, by (first | exact Frm.refl _ | assumption | exact Go.Sv.Sep.frm (by assumption) | (refine Frm.trans ?_ (by assumption); first | exact Frm.refl _ | assumption))⟩; (try simp only [realB, rv_true, Nat.reduceBEq, cond_true, cond_false, entG, real_lif, updGL]); first | rfl | (simp; done))
  replace hc : ¬ k = 3 := hc
  rw [if_neg hc] at hev
  have hk3 := hc
  clear hc
  refine sgo ?_
  (show WC _ _ _ _ _ _ _; first | refine WC_dec rfl (fun hc => ?_) (fun hc => ?_) | refine WC_cond rfl (fun hc => ?_) (fun hc => ?_))
  · replace hc : k = 2 := hc
    subst hc
    refine sgo ?_
    refine wlgbuildv (vals := [(0, int 2), (1, str nm)]) (fun hg => bm2 rfl (evG hg)) ?_
    refine wlcallgp (vals := [.agg ⟨Tok.cells (Ev.close ⟨2, nm, tx, es⟩) none 0⟩]) (fun hg => check_ok (Ev.close ⟨2, nm, tx, es⟩) none 0 (Ev.close_small hs) w1 (Im.nil _ _ _)) fun w3 hf3 => ?_
    replace hS := hS.grow hf3
    refine sgo ?_
    have hB : pkb (pkb (decide (tx = [])) (decide ((es.length : Int) = 0)) false) (decide ((if mayR (Ev.close ⟨2, nm, tx, es⟩) = true then (0 : Int) else 70) = 0)) false = evR ⟨2, nm, tx, es⟩ := by
      rw [← hev, if_pos rfl]; cases mayR (Ev.close ⟨2, nm, tx, es⟩) <;> simp [pkb_and]
    rw [hB]
    cases evR ⟨2, nm, tx, es⟩ <;> (refine sgo ?_; (first | refine fp1 (.inl rfl) rfl rfl ?_ | refine fp2 (.inl rfl) rfl rfl rfl ?_ | refine fp3 (.inl rfl) rfl rfl rfl rfl ?_ | refine fp0 (.inr rfl) rfl ?_ | refine fp0 (.inl rfl) rfl ?_ | refine fp1 (.inr rfl) rfl rfl ?_); refine ⟨?_, by (first | exact Frm.refl _ | assumption | exact Go.Sv.Sep.frm (by assumption) | (refine Frm.trans ?_ (by assumption); first | exact Frm.refl _ | assumption))⟩; (try simp only [realB, rv_true, Nat.reduceBEq, cond_true, cond_false, entG, real_lif, updGL]); first | rfl | (simp; done))
  · replace hc : ¬ k = 2 := hc
    rw [if_neg hc] at hev
    rw [← hev]
    refine sgo ?_
    (first | refine fp1 (.inl rfl) rfl rfl ?_ | refine fp2 (.inl rfl) rfl rfl rfl ?_ | refine fp3 (.inl rfl) rfl rfl rfl rfl ?_ | refine fp0 (.inr rfl) rfl ?_ | refine fp0 (.inl rfl) rfl ?_ | refine fp1 (.inr rfl) rfl rfl ?_); refine ⟨?_, by (first | exact Frm.refl _ | assumption | exact Go.Sv.Sep.frm (by assumption) | (refine Frm.trans ?_ (by assumption); first | exact Frm.refl _ | assumption))⟩; (try simp only [realB, rv_true, Nat.reduceBEq, cond_true, cond_false, entG, real_lif, updGL])
    rfl

set_option maxHeartbeats 4000000 in
theorem refEvCheck_ok (e : Ev) (p : Option Addr) (c : Nat) (hs : e.small) (w : World) (hi : Im [] w p (e.attrs.flatMap At.cells)) :
    PureC Tryd.prog 27 #[.agg ⟨e.cells p c⟩] w (.bool (evR e)) := by
  have hev : evR e = evR e := rfl
  obtain ⟨k, nm, tx, es⟩ := e
  have htx := hs.text
  dsimp only at htx hi
  conv at hev => lhs; unfold evR
  dsimp only at hev
  refine enter (l := [.agg ⟨Ev.cells ⟨k, nm, tx, es⟩ p c⟩]) Tryd.func27 rfl Tryd.ntmps27 (by kernel_rfl) rfl ?_
  have hS := Sep.start w
  refine sgo ?_
  refine sbox (v := .agg ⟨Ev.cells ⟨k, nm, tx, es⟩ p c⟩) hS fun b w1 hS => ?_
  replace hS : Sep w w1 [pOwn b [int k, str nm, str tx, .slice p es.length c]] := hS
  refine sgo ?_
  (show WC _ _ _ _ _ _ _; first | refine WC_dec rfl (fun hc => ?_) (fun hc => ?_) | refine WC_cond rfl (fun hc => ?_) (fun hc => ?_))
  · replace hc : k = 0 := hc
    subst hc
    refine sgo ?_
    refine wls2bg (s := tx) (by omega) fun q cc w2 hI hf2 => ?_
    refine wlcallgp (vals := [.slice (pb q) tx.length cc]) (fun hg => refValid_ok tx (pb q) tx.length cc rfl (hI hg).1 (by omega) w2 (hI hg).2.2) fun w3 hf3 => ?_
    replace hS := (hS.grow hf2).grow hf3
    refine sgo ?_
    (first | refine fp1 (.inl rfl) rfl rfl ?_ | refine fp2 (.inl rfl) rfl rfl rfl ?_ | refine fp3 (.inl rfl) rfl rfl rfl rfl ?_ | refine fp0 (.inr rfl) rfl ?_ | refine fp0 (.inl rfl) rfl ?_ | refine fp1 (.inr rfl) rfl rfl ?_); refine ⟨?_, by (first | exact Frm.refl _ | assumption | exact Go.Sv.Sep.frm (by assumption) | (refine Frm.trans ?_ (by assumption); first | exact Frm.refl _ | assumption))⟩; (try simp only [realB, rv_true, Nat.reduceBEq, cond_true, cond_false, entG, real_lif, updGL])
    congr 1
    rw [← hev, if_pos rfl]; simp [pkb_and]
  replace hc : ¬ k = 0 := hc
  rw [if_neg hc] at hev
  have hk0 := hc
  clear hc
  refine sgo ?_
  by_cases hk1 : k = 1
  · subst hk1
    refine sgo ?_
    refine wcdraw ?_
    refine qgo ?_
    refine qlg (v := .agg ⟨Tok.cells (Ev.start ⟨1, nm, tx, es⟩) p c⟩) ?_ rfl rfl (fun hg => YQ.ofY fun _ _ => y_build (cells := Tok.cells (Ev.start ⟨1, nm, tx, es⟩) p c) (by rw [bm3 (v := int 1) rfl (evG hg) (evG hg)]; simp [fillL, setSeg, Value.cells]; rfl))
    refine qlcallgp (vals := [.agg ⟨Tok.cells (Ev.start ⟨1, nm, tx, es⟩) p c⟩]) (v := .bool (mayR (Ev.start ⟨1, nm, tx, es⟩))) (fun hg w' hw' => may_ok (Ev.start ⟨1, nm, tx, es⟩) p c (Ev.start_small hs) w' ((hi.sep hS).frm hw')) ?_
    refine qgo ?_
    refine qlcallgp (vals := [str nm, int 0]) (v := .bool (voidR nm)) (fun hg w' hw' => refIn0_ok nm w') ?_
    refine qgo ?_
    refine QL_nil ?_
    intro wd hwd
    replace hS := hS.grow hwd
    refine sgo ?_
    (first | refine fp1 (.inl rfl) rfl rfl ?_ | refine fp2 (.inl rfl) rfl rfl rfl ?_ | refine fp3 (.inl rfl) rfl rfl rfl rfl ?_ | refine fp0 (.inr rfl) rfl ?_ | refine fp0 (.inl rfl) rfl ?_ | refine fp1 (.inr rfl) rfl rfl ?_); refine ⟨?_, by (first | exact Frm.refl _ | assumption | exact Go.Sv.Sep.frm (by assumption) | (refine Frm.trans ?_ (by assumption); first | exact Frm.refl _ | assumption))⟩; (try simp only [realB, rv_true, Nat.reduceBEq, cond_true, cond_false, entG, real_lif, updGL])
    congr 1
    rw [← hev, if_pos rfl]; cases mayR (Ev.start ⟨1, nm, tx, es⟩) <;> cases voidR nm <;> simp [pkb_and]
  rw [if_neg hk1] at hev
  refine wcno ?_ (ht := decide_eq_false hk1)
  refine sgo ?_
  (show WC _ _ _ _ _ _ _; first | refine WC_dec rfl (fun hc => ?_) (fun hc => ?_) | refine WC_cond rfl (fun hc => ?_) (fun hc => ?_))
  · replace hc : k = 3 := hc
    subst hc
    refine sgo ?_
    refine wcdraw ?_
    refine qgo ?_
    refine qlg (v := .agg ⟨Tok.cells (Ev.start ⟨3, nm, tx, es⟩) p c⟩) ?_ rfl rfl (fun hg => YQ.ofY fun _ _ => y_build (cells := Tok.cells (Ev.start ⟨3, nm, tx, es⟩) p c) (by rw [bm3 (v := int 1) rfl (evG hg) (evG hg)]; simp [fillL, setSeg, Value.cells]; rfl))
    refine qlcallgp (vals := [.agg ⟨Tok.cells (Ev.start ⟨3, nm, tx, es⟩) p c⟩]) (v := .bool (mayR (Ev.start ⟨3, nm, tx, es⟩))) (fun hg w' hw' => may_ok (Ev.start ⟨3, nm, tx, es⟩) p c (Ev.start_small hs) w' ((hi.sep hS).frm hw')) ?_
    refine qgo ?_
    refine qlcallgp (vals := [str nm, int 0]) (v := .bool (voidR nm)) (fun hg w' hw' => refIn0_ok nm w') ?_
    refine qgo ?_
    refine QL_nil ?_
    intro wd hwd
    replace hS := hS.grow hwd
    refine sgo ?_
    (first | refine fp1 (.inl rfl) rfl rfl ?_ | refine fp2 (.inl rfl) rfl rfl rfl ?_ | refine fp3 (.inl rfl) rfl rfl rfl rfl ?_ | refine fp0 (.inr rfl) rfl ?_ | refine fp0 (.inl rfl) rfl ?_ | refine fp1 (.inr rfl) rfl rfl ?_); refine ⟨?_, by (first | exact Frm.refl _ | assumption | exact Go.Sv.Sep.frm (by assumption) | (refine Frm.trans ?_ (by assumption); first | exact Frm.refl _ | assumption))⟩; (try simp only [realB, rv_true, Nat.reduceBEq, cond_true, cond_false, entG, real_lif, updGL])
    congr 1
    rw [← hev, if_pos rfl]; cases mayR (Ev.start ⟨3, nm, tx, es⟩) <;> cases voidR nm <;> simp [pkb_and]
  replace hc : ¬ k = 3 := hc
  rw [if_neg hc] at hev
  have hk3 := hc
  clear hc
  refine sgo ?_
  (show WC _ _ _ _ _ _ _; first | refine WC_dec rfl (fun hc => ?_) (fun hc => ?_) | refine WC_cond rfl (fun hc => ?_) (fun hc => ?_))
  · replace hc : k = 2 := hc
    subst hc
    refine sgo ?_
    refine wlgbuildv (vals := [(0, int 2), (1, str nm)]) (fun hg => bm2 rfl (evG hg)) ?_
    refine wlcallgp (vals := [.agg ⟨Tok.cells (Ev.close ⟨2, nm, tx, es⟩) none 0⟩]) (fun hg => may_ok (Ev.close ⟨2, nm, tx, es⟩) none 0 (Ev.close_small hs) w1 (Im.nil _ _ _)) fun w3 hf3 => ?_
    replace hS := hS.grow hf3
    refine sgo ?_
    (first | refine fp1 (.inl rfl) rfl rfl ?_ | refine fp2 (.inl rfl) rfl rfl rfl ?_ | refine fp3 (.inl rfl) rfl rfl rfl rfl ?_ | refine fp0 (.inr rfl) rfl ?_ | refine fp0 (.inl rfl) rfl ?_ | refine fp1 (.inr rfl) rfl rfl ?_); refine ⟨?_, by (first | exact Frm.refl _ | assumption | exact Go.Sv.Sep.frm (by assumption) | (refine Frm.trans ?_ (by assumption); first | exact Frm.refl _ | assumption))⟩; (try simp only [realB, rv_true, Nat.reduceBEq, cond_true, cond_false, entG, real_lif, updGL])
    congr 1
    rw [← hev, if_pos rfl]; cases mayR (Ev.close ⟨2, nm, tx, es⟩) <;> simp [pkb_and]
  · replace hc : ¬ k = 2 := hc
    rw [if_neg hc] at hev
    rw [← hev]
    refine sgo ?_
    (first | refine fp1 (.inl rfl) rfl rfl ?_ | refine fp2 (.inl rfl) rfl rfl rfl ?_ | refine fp3 (.inl rfl) rfl rfl rfl rfl ?_ | refine fp0 (.inr rfl) rfl ?_ | refine fp0 (.inl rfl) rfl ?_ | refine fp1 (.inr rfl) rfl rfl ?_); refine ⟨?_, by (first | exact Frm.refl _ | assumption | exact Go.Sv.Sep.frm (by assumption) | (refine Frm.trans ?_ (by assumption); first | exact Frm.refl _ | assumption))⟩; (try simp only [realB, rv_true, Nat.reduceBEq, cond_true, cond_false, entG, real_lif, updGL])
end Go.Proofs.YthgbpgjpnaanlaaDoor

/-
  How events nest: the plain part; the stack of names.
-/
set_option linter.unusedSimpArgs false
set_option linter.unusedVariables false
set_option linter.unnecessarySimpa false
namespace Go.Sv
open Go Go.RowKit
/-- a cut behind a piece of code -/
theorem wcutt {P : Program} {n : Nat} {ds : Ctx} {K : Ctx → Env → World → Prop} {Q : Exit → Ctx → Env → World → Prop} {σ : Env} {w : World} {a : Code} {X : Type} (sl : X → List (Nat × Value)) (I : X → World → Prop)
    (ha : WC P n ds a (thl ds (fun σ w => ∃ x, Has σ (sl x) ∧ I x w) Q) σ w) (hb : ∀ x w (ρ : GE), I x w → K ds (real (updGL ρ (sl x))) w) : WC P n ds a (thn K Q) σ w := by
  refine WC_mono ha ?_
  intro e c' σ' w' h
  unfold thl at h
  unfold thn
  cases e <;> try exact h
  obtain ⟨rfl, x, h1, h2⟩ := h
  have := hb x w' (lif σ') h2
  rw [← real_updL, updL_has h1] at this
  exact this
/-- two worlds that agree on the first B blocks -/
structure Same (B : Nat) (w w' : World) : Prop where
  os : w'.os = w.os
  tape : w'.tape = w.tape
  output : w'.output = w.output
  size : B ≤ w'.heap.size
  block : ∀ k, k < B → w'.heap[k]? = w.heap[k]?
theorem Same.of_frm {w0 w w' : World} (h : Frm w0 w) (h' : Frm w0 w') : Same w0.heap.size w w' := ⟨h'.os.trans h.os.symm, h'.tape.trans h.tape.symm, h'.output.trans h.output.symm, h'.size, fun k hk => (h'.block k hk).trans (h.block k hk).symm⟩
theorem Same.frm {w w1 w2 : World} (h : Frm w w1) (h' : Same w.heap.size w1 w2) : Frm w w2 := ⟨h'.os.trans h.os, h'.tape.trans h.tape, h'.output.trans h.output, h'.size, fun k hk => (h'.block k hk).trans (h.block k hk)⟩
theorem Same.of_sep {w0 w w' : World} {cs ds : List Plot} (h : Sep w0 w cs) (h' : Sep w0 w' ds) : Same w0.heap.size w w' := Same.of_frm h.frm h'.frm
theorem Own.same {B : Nat} {w w' : World} {b : Nat} {l : List Value} (h : Own w b l) (hs : Same B w w') (hb : b < B) : Own w' b l := h.of_block (hs.block b hb)
/-- what was there before has been written: the pieces stay -/
theorem Sep.rebase {w0 w w' : World} {cs : List Plot} {N : List Nat} (h : Sep w0 w cs) (hl : Le N w w') (hN : ∀ x ∈ N, x < w0.heap.size) : ∃ w1 : World, w1.heap.size = w0.heap.size ∧ Sep w1 w' cs := by
  have hsz : w0.heap.size ≤ w'.heap.size := Nat.le_trans h.frm.size hl.size
  refine ⟨{ w' with heap := w'.heap.extract 0 w0.heap.size }, by simp; omega, ⟨⟨rfl, rfl, rfl, by simp; omega, fun k hk => ?_⟩, fun c hc => ?_, fun c hc x hx => ?_, h.apart⟩⟩
  · simp at hk
    simp [Array.getElem?_extract, Nat.sub_zero]
    intro h1
    omega
  · refine c.loc w w' (h.ok c hc) fun x hx => hl.block x (h.lt hc x hx) fun hm => ?_
    have := hN x hm
    have := h.low c hc x hx
    omega
  · have := h.low c hc x hx
    simp
    omega
end Go.Sv
namespace Go.Proofs.YthgbpgjpnaanlaaDoor
open Go Go.Sv Go.RowKit

/-! ## The plain part -/
structure Lk where
  stack : List (List UInt8)
  most : Nat
  at_ : Nat
  err : Int
  good : Nat
def lkStep (k : Lk) (e : Ev) : Lk :=
  if k.err = 0 then
    if evR e then
      if e.kind = 1 then ⟨k.stack ++ [e.name], max k.most (k.stack.length + 1), 0, 0, k.good + 1⟩
      else if e.kind = 3 then ⟨k.stack, max k.most (k.stack.length + 1), 0, 0, k.good + 1⟩
      else if e.kind = 2 then (if k.stack.getLast? = some e.name then ⟨k.stack.dropLast, k.most, 0, 0, k.good + 1⟩ else { k with at_ := k.good, err := 181 })
      else ⟨k.stack, k.most, 0, 0, k.good + 1⟩
    else { k with at_ := k.good, err := 180 }
  else k
def lk0 : Lk := ⟨[], 0, 0, 0, 0⟩
/-- how events nest -/
def lkR (l : List Ev) : Lk := l.foldl lkStep lk0
theorem lk_bad {k : Lk} (h : k.err ≠ 0) (l : List Ev) : l.foldl lkStep k = k := by
  induction l with
  | nil => rfl
  | cons e l ih => rw [List.foldl_cons, lkStep, if_neg h, ih]
theorem lk_take {l : List Ev} {i : Nat} {e : Ev} (h : l[i]? = some e) : lkR (l.take (i + 1)) = lkStep (lkR (l.take i)) e := by
  rw [List.take_add_one, h, lkR, List.foldl_append]; rfl
theorem lk_split (l : List Ev) (i : Nat) : lkR l = (l.drop i).foldl lkStep (lkR (l.take i)) := by
  conv => lhs; rw [← List.take_append_drop i l, lkR, List.foldl_append]
  rfl
theorem lk_stop {l : List Ev} {i : Nat} (h : (lkR (l.take i)).err ≠ 0) : lkR l = lkR (l.take i) := by rw [lk_split l i, lk_bad h]
theorem lk_ok {l : List Ev} (h : (lkR l).err = 0) : (lkR l).at_ = 0 ∧ (lkR l).good = l.length ∧ (lkR l).stack.length ≤ l.length ∧ (lkR l).most ≤ l.length := by
  have key : ∀ (l : List Ev) (k : Lk), (l.foldl lkStep k).err = 0 → k.at_ = 0 → (l.foldl lkStep k).at_ = 0 ∧ (l.foldl lkStep k).good = k.good + l.length ∧ (l.foldl lkStep k).stack.length ≤ k.stack.length + l.length ∧ (l.foldl lkStep k).most ≤ max k.most k.stack.length + l.length := by
    intro l
    induction l with
    | nil => intro k h1 h2; exact ⟨h2, rfl, Nat.le_refl _, by simp [Nat.le_max_left]⟩
    | cons e l ih =>
      intro k h1 h2
      rw [List.foldl_cons] at h1 ⊢
      have hk : (lkStep k e).err = 0 := by
        apply Decidable.byContradiction
        intro hne
        rw [lk_bad hne] at h1
        exact hne h1
      have hs : (lkStep k e).at_ = 0 ∧ (lkStep k e).good = k.good + 1 ∧ (lkStep k e).stack.length ≤ k.stack.length + 1 ∧ (lkStep k e).most ≤ max k.most k.stack.length + 1 ∧ max (lkStep k e).most (lkStep k e).stack.length ≤ max k.most k.stack.length + 1 := by
        revert hk
        unfold lkStep
        split <;> (try split) <;> (try split) <;> (try split) <;> (try split) <;> (try split) <;> intro hk <;> simp at hk ⊢ <;> omega
      obtain ⟨g1, g2, g3, g4⟩ := ih _ h1 hs.1
      refine ⟨g1, by rw [g2, hs.2.1, List.length_cons]; omega, by rw [List.length_cons]; omega, by rw [List.length_cons]; omega⟩
  have := key l lk0 h rfl
  simpa [lkR, lk0] using this
/-- the first wrong one -/
theorem lk_err {l : List Ev} (h : (lkR l).err ≠ 0) : ∃ i, ∃ hi : i < l.length, (lkR (l.take i)).err = 0 ∧ lkR l = lkStep (lkR (l.take i)) l[i] := by
  have key : ∀ n, n ≤ l.length → (lkR (l.take n)).err = 0 ∨ ∃ i, ∃ hi : i < l.length, (lkR (l.take i)).err = 0 ∧ lkR l = lkStep (lkR (l.take i)) l[i] := by
    intro n
    induction n with
    | zero => intro _; exact .inl rfl
    | succ n ih =>
      intro hn
      rcases ih (by omega) with h1 | h1
      · have hx : l[n]? = some l[n] := List.getElem?_eq_getElem (by omega)
        by_cases h2 : (lkR (l.take (n + 1))).err = 0
        · exact .inl h2
        · exact .inr ⟨n, by omega, h1, by rw [lk_stop h2, lk_take hx]⟩
      · exact .inr h1
  rcases key l.length (Nat.le_refl _) with h1 | h1
  · rw [List.take_length] at h1; exact absurd h1 h
  · exact h1
/-- the wrong one, said -/
theorem lk_wrong {k : Lk} {e : Ev} (h0 : k.err = 0) (h : (lkStep k e).err ≠ 0) : lkStep k e = { k with at_ := k.good, err := if evR e then 181 else 180 } := by
  revert h
  unfold lkStep
  rw [if_pos h0]
  cases he : evR e with
  | false => intro _; rfl
  | true =>
    simp only [if_true]
    split
    · intro h; exact absurd rfl h
    · split
      · intro h; exact absurd rfl h
      · split
        · split
          · intro h; exact absurd rfl h
          · intro _; rfl
        · intro h; exact absurd rfl h
theorem lk_bound (l : List Ev) : (lkR l).stack.length ≤ l.length ∧ (lkR l).most ≤ l.length ∧ (lkR l).at_ ≤ l.length ∧ (lkR l).good ≤ l.length := by
  by_cases h : (lkR l).err = 0
  · obtain ⟨h1, h2, h3, h4⟩ := lk_ok h
    omega
  · obtain ⟨i, hi, h0, e⟩ := lk_err h
    have := lk_ok h0
    rw [e] at h ⊢
    rw [lk_wrong h0 h]
    simp only [List.length_take] at this
    dsimp only
    omega
/-- one that is right -/
theorem lk_right {k : Lk} {e : Ev} (h0 : k.err = 0) (h : (lkStep k e).err = 0) : evR e = true ∧ lkStep k e = ⟨if e.kind = 1 then k.stack ++ [e.name] else if e.kind = 2 then k.stack.dropLast else k.stack, if e.kind = 1 ∨ e.kind = 3 then max k.most (k.stack.length + 1) else k.most, 0, 0, k.good + 1⟩ := by
  revert h
  unfold lkStep
  rw [if_pos h0]
  cases he : evR e with
  | false => intro h; simp at h
  | true =>
    simp only [if_true]
    by_cases h1 : e.kind = 1
    · simp [h1]
    · rw [if_neg h1]
      by_cases h3 : e.kind = 3
      · simp [h3]
      · rw [if_neg h3]
        by_cases h2 : e.kind = 2
        · rw [if_pos h2]
          split
          · simp [h2]
          · intro h; simp at h
        · simp [h1, h2, h3]

/-! ## A stack of names in memory -/
/-- a stack: where it lies, and its names -/
def pStk (b : Nat) (p : Option Addr) (c : Nat) (st : List (List UInt8)) : List Plot := [pOwn b [.slice p st.length c], pRow 1 p st.length c (strs st)]
set_option maxHeartbeats 1000000 in
theorem push_ok (b : Nat) (p : Option Addr) (c : Nat) (st : List (List UInt8)) (x : List UInt8) (hb : st.length ≤ 1048576) (w0 w : World) (cs : List Plot) (hS : Sep w0 w (pOwn b [.slice p st.length c] :: pRow 1 p st.length c (strs st) :: cs)) :
    CallsR Tryd.prog 67 #[ptrAt (pb b) 0, str x] w fun _ w' => ∃ p' c', Sep w0 w' (pOwn b [.slice p' (st ++ [x]).length c'] :: pRow 1 p' (st ++ [x]).length c' (strs (st ++ [x])) :: cs) := by
  refine enter (l := [ptrAt (pb b) 0, str x]) Tryd.func67 rfl Tryd.ntmps67 (by kernel_rfl) rfl ?_
  refine sgo ?_
  refine sb1s hS fun b2 w2 hS => ?_
  refine sgo ?_
  refine sapp hS 2 (hS.own 0 rfl).sg fun p' c' w3 hS => ?_
  rw [strs_snoc] at hS
  have hn : st.length + 1 = (st ++ [x]).length := by simp
  rw [hn] at hS ⊢
  refine sgo ?_
  refine sst_slice hS 1 fun w4 hS => ?_
  refine sgo ?_
  (first | refine fp1 (.inl rfl) rfl rfl ?_ | refine fp2 (.inl rfl) rfl rfl rfl ?_ | refine fp3 (.inl rfl) rfl rfl rfl rfl ?_ | refine fp0 (.inr rfl) rfl ?_ | refine fp0 (.inl rfl) rfl ?_ | refine fp1 (.inr rfl) rfl rfl ?_)
  exact ⟨p', c', hS.tail⟩
set_option maxHeartbeats 1000000 in
theorem pop_ok (b : Nat) (p : Option Addr) (c : Nat) (st : List (List UInt8)) (hb : st.length ≤ 1048576) (h0 : st ≠ []) (w0 w : World) (cs : List Plot) (hS : Sep w0 w (pOwn b [.slice p st.length c] :: pRow 1 p st.length c (strs st) :: cs)) :
    CallsR Tryd.prog 69 #[ptrAt (pb b) 0] w fun _ w' => Sep w0 w' (pOwn b [.slice p st.dropLast.length c] :: pRow 1 p st.dropLast.length c (strs st.dropLast) :: cs) := by
  have hpos : 0 < st.length := List.length_pos_iff.2 h0
  have hle := (hS.row 1 rfl).le_cap
  refine enter (l := [ptrAt (pb b) 0]) Tryd.func69 rfl Tryd.ntmps69 (by kernel_rfl) rfl ?_
  refine sgo ?_
  refine wcdrawt 14 ?_
  refine qgo ?_
  refine QL_nil ?_
  intro w1 hf1
  replace hS := hS.grow hf1
  refine sgo ?_
  refine sst_slice hS 0 fun w4 hS => ?_
  refine sgo ?_
  (first | refine fp1 (.inl rfl) rfl rfl ?_ | refine fp2 (.inl rfl) rfl rfl rfl ?_ | refine fp3 (.inl rfl) rfl rfl rfl rfl ?_ | refine fp0 (.inr rfl) rfl ?_ | refine fp0 (.inl rfl) rfl ?_ | refine fp1 (.inr rfl) rfl rfl ?_)
  have hn : ((st.length : Int) - 1).toNat = st.dropLast.length := by simp
  rw [hn] at hS
  refine Sep.turn (c := pRow 1 p st.length c (strs st)) (c' := pRow 1 p st.dropLast.length c (strs st.dropLast)) hS 1 rfl (fun h => ?_) (fun x hx => hx)
  have := Row.take h (j := st.dropLast.length) (by simp)
  rw [Nat.mul_one] at this
  have e : (strs st).take st.dropLast.length = strs st.dropLast := by rw [strs, strs, ← List.map_take, List.length_dropLast, List.dropLast_eq_take]
  rw [e] at this
  exact this
set_option maxHeartbeats 1000000 in
theorem top_ok (b : Nat) (p : Option Addr) (c : Nat) (st : List (List UInt8)) (hb : st.length ≤ 1048576) (w0 w : World) (cs : List Plot) (hS : Sep w0 w (pOwn b [.slice p st.length c] :: pRow 1 p st.length c (strs st) :: cs)) :
    PureC Tryd.prog 78 #[ptrAt (pb b) 0] w (.tuple #[str (st.getLast?.getD []), .bool !decide (st = [])]) := by
  refine enter (l := [ptrAt (pb b) 0]) Tryd.func78 rfl Tryd.ntmps78 (by kernel_rfl) rfl ?_
  refine sgo ?_
  (show WC _ _ _ _ _ _ _; first | refine WC_dec rfl (fun hc => ?_) (fun hc => ?_) | refine WC_cond rfl (fun hc => ?_) (fun hc => ?_))
  · obtain rfl : st = [] := List.length_eq_zero_iff.1 (by omega)
    refine sgo ?_
    (first | refine fp1 (.inl rfl) rfl rfl ?_ | refine fp2 (.inl rfl) rfl rfl rfl ?_ | refine fp3 (.inl rfl) rfl rfl rfl rfl ?_ | refine fp0 (.inr rfl) rfl ?_ | refine fp0 (.inl rfl) rfl ?_ | refine fp1 (.inr rfl) rfl rfl ?_); refine ⟨?_, by (first | exact Frm.refl _ | assumption | exact Go.Sv.Sep.frm (by assumption) | (refine Frm.trans ?_ (by assumption); first | exact Frm.refl _ | assumption))⟩; (try simp only [realB, rv_true, Nat.reduceBEq, cond_true, cond_false, entG, real_lif, updGL])
    rfl
  · have h0 : st ≠ [] := fun h => hc (by rw [h]; rfl)
    have hpos : 0 < st.length := List.length_pos_iff.2 h0
    clear hc
    have hp : ∃ a, p = some a := (hS.row 1 rfl).sg.some (by rw [strs_len]; exact hpos)
    have hg : (strs st)[((st.length : Int) - 1).toNat]? = some (str (st.getLast?.getD [])) := by
      rw [show ((st.length : Int) - 1).toNat = st.length - 1 by omega, strs, List.getElem?_map, List.getLast?_eq_getElem?, List.getElem?_eq_getElem (by omega)]
      rfl
    refine sgo ?_
    refine wcdraw ?_
    refine qgo ?_
    refine QL_nil ?_
    intro w1 hf1
    refine sgo ?_
    (first | refine fp1 (.inl rfl) rfl rfl ?_ | refine fp2 (.inl rfl) rfl rfl rfl ?_ | refine fp3 (.inl rfl) rfl rfl rfl rfl ?_ | refine fp0 (.inr rfl) rfl ?_ | refine fp0 (.inl rfl) rfl ?_ | refine fp1 (.inr rfl) rfl rfl ?_); refine ⟨?_, by (first | exact Frm.refl _ | assumption | exact Go.Sv.Sep.frm (by assumption) | (refine Frm.trans ?_ (by assumption); first | exact Frm.refl _ | assumption))⟩; (try simp only [realB, rv_true, Nat.reduceBEq, cond_true, cond_false, entG, real_lif, updGL])
    simp [h0]
end Go.Proofs.YthgbpgjpnaanlaaDoor

/-
  Package event: walk.
-/
set_option linter.unusedSimpArgs false
set_option linter.unusedVariables false
set_option linter.unnecessarySimpa false
namespace Go.Proofs.YthgbpgjpnaanlaaDoor
open Go Go.Sv Go.RowKit

/-- the events alone -/
def evs (ms : List EvM) : List Ev := ms.map EvM.e
theorem evs_len (ms : List EvM) : (evs ms).length = ms.length := by simp [evs]
theorem evs_at {ms : List EvM} {i : Nat} {m : EvM} (h : ms[i]? = some m) : (evs ms)[i]? = some m.e := by simp [evs, h]
/-- how the first i nest -/
def lkI (ms : List EvM) (i : Nat) : Lk := lkR ((evs ms).take i)
theorem lkI_succ {ms : List EvM} {i : Nat} {m : EvM} (h : ms[i]? = some m) : lkI ms (i + 1) = lkStep (lkI ms i) m.e := lk_take (evs_at h)
theorem lkI_ok {ms : List EvM} {i : Nat} (hi : i ≤ ms.length) (h : (lkI ms i).err = 0) : (lkI ms i).at_ = 0 ∧ (lkI ms i).good = i ∧ (lkI ms i).stack.length ≤ i ∧ (lkI ms i).most ≤ i := by
  have := lk_ok h
  rw [List.length_take, evs_len, Nat.min_eq_left hi] at this
  exact this
theorem lkI_stop {ms : List EvM} {i : Nat} (h : (lkI ms i).err ≠ 0) : lkR (evs ms) = lkI ms i := lk_stop h
theorem lkI_all (ms : List EvM) : lkI ms ms.length = lkR (evs ms) := by rw [lkI, ← evs_len, List.take_length]

set_option maxHeartbeats 1000000 in
/-- walk, over whatever it is that sees -/
theorem walk_ok (ms : List EvM) (p : Option Addr) (c : Nat) (hn : ms.length ≤ 1048576) (hs : ∀ m ∈ ms, m.e.small) (f : FuncId) [hf : Fnc Tryd.prog f] (cap : List Value) (B : Nat) (J Jx : Nat → World → Prop)
    (hJE : ∀ i w, J i w → Evs w p ms ∧ Asc w) (hst : ∀ i w1 w2, J i w1 → Same B w1 w2 → J i w2) (hstx : ∀ i w1 w2, Jx i w1 → Same B w1 w2 → Jx i w2)
    (hsee : ∀ i w1 m, J i w1 → ms[i]? = some m → (lkI ms i).err = 0 → (lkI ms (i + 1)).err = 0 → CallsR Tryd.prog f ([int (lkI ms i).stack.length, .agg ⟨m.cells⟩] ++ cap).toArray w1 fun v w2 => ∃ bb N, v = .bool bb ∧ Le N w1 w2 ∧ (∀ x ∈ N, x < B) ∧ if bb then J (i + 1) w2 else Jx i w2)
    (w : World) (hB : B = w.heap.size) (h0 : J 0 w) :
    CallsR Tryd.prog 43 #[.slice p ms.length c, .func (.func f) #[] ⟨cap⟩] w fun v w' =>
      (J (lkR (evs ms)).good w' ∧ (lkR (evs ms)).err ≠ 0 ∧ v = .tuple #[int (lkR (evs ms)).at_, int (lkR (evs ms)).err, .slice none 0 0]) ∨
      (J ms.length w' ∧ (lkR (evs ms)).err = 0 ∧ ∃ q cc w0, v = .tuple #[int 0, int 0, .slice q (lkR (evs ms)).stack.length cc] ∧ w0.heap.size = B ∧ Sep w0 w' [pRow 1 q (lkR (evs ms)).stack.length cc (strs (lkR (evs ms)).stack)]) ∨
      ∃ i q n cc, i < ms.length ∧ (lkI ms (i + 1)).err = 0 ∧ Jx i w' ∧ v = .tuple #[int 0, int 0, .slice q n cc] := by
  refine enter (l := [.slice p ms.length c, .func (.func f) #[] ⟨cap⟩]) Tryd.func43 rfl Tryd.ntmps43 (by kernel_rfl) rfl ?_
  have hS := Sep.start w
  refine sgo ?_
  refine salloc hS fun b7 w7 hS => ?_
  replace hS : Sep w w7 [pOwn b7 [.slice none 0 0]] := hS
  replace hS := (hS.push (c := pRow 1 none 0 0 (strs [])) (Frm.refl w7) (Row.nil w7 1) (by simp [pRow, rb])).front 1 rfl
  have hJ7 := hst 0 _ _ h0 (hB ▸ Same.of_frm (Frm.refl w) hS.frm)
  refine sgo ?_
  refine wcloop (X := Nat × Option Addr × Nat) (fun x => [(1, .func (.func f) #[] ⟨cap⟩), (4, int 0), (5, int 0), (6, .slice none 0 0), (7, ptrAt (pb b7) 0), (13, .slice p ms.length c), (14, int ms.length), (15, int x.1)])
    (fun x wr => x.1 ≤ ms.length ∧ (lkI ms x.1).err = 0 ∧ J x.1 wr ∧ ∃ w0, w0.heap.size = B ∧ Sep w0 wr [pOwn b7 [.slice x.2.1 (lkI ms x.1).stack.length x.2.2], pRow 1 x.2.1 (lkI ms x.1).stack.length x.2.2 (strs (lkI ms x.1).stack)])
    (fun x => ms.length - x.1) (0, none, 0) ⟨rfl, rfl, rfl, rfl, rfl, rfl, rfl, rfl, trivial⟩ ⟨Nat.zero_le _, rfl, hJ7, w, hB.symm, hS⟩ ?_
  clear hS hJ7 h0
  rintro ⟨i, q, cc⟩ wr ρ ⟨hil, herr, hJ, w0, hw0, hS⟩
  dsimp only at *
  have hok := lkI_ok hil herr
  have hE := (hJE i wr hJ).1
  have hA := (hJE i wr hJ).2
  refine sgo ?_
  (show WC _ _ _ _ _ _ _; first | refine WC_dec rfl (fun hc => ?_) (fun hc => ?_) | refine WC_cond rfl (fun hc => ?_) (fun hc => ?_))
  · have hlt : i < ms.length := by omega
    have hx : ms[i]? = some ms[i] := List.getElem?_eq_getElem hlt
    have hmem : ms[i] ∈ ms := List.getElem_mem hlt
    have hseg := fm_seg EvM.len ms hx
    have hfl := fm_len EvM.len ms
    have hat := hE.each _ hmem
    have hsm := hs _ hmem
    have hps : ∃ a, p = some a := hE.im.sg.some (by omega)
    have hSg := hE.im.sg
    have hsuc := lkI_succ hx
    generalize ms[i] = m at *
    generalize hk : lkI ms i = k at *
    clear hc
    have hJat : ∀ w' ds, Sep w0 w' ds → J i w' := fun w' ds h => hst i wr w' hJ (hw0 ▸ Same.of_sep hS h)
    clear hat
    obtain ⟨⟨kd, nm, tx, es⟩, mp, mc⟩ := m
    refine sgo ?_
    rw [hseg]
    refine salloc hS fun b9 w9 hS => ?_
    refine sgo ?_
    refine ssta (vs := [int kd, str nm, str tx, .slice mp es.length mc]) hS 0 fun w10 hS => ?_
    replace hS : Sep w0 w10 [pOwn b9 [int kd, str nm, str tx, .slice mp es.length mc], pOwn b7 [.slice q k.stack.length cc], pRow 1 q k.stack.length cc (strs k.stack)] := hS
    have h10 := hJE i _ (hJat _ _ hS)
    refine sgo ?_
    refine wlpure (evCheck_ok ⟨kd, nm, tx, es⟩ mp mc hsm w10 h10.2 (h10.1.each _ hmem)) fun w11 hf11 => ?_
    replace hS := hS.grow hf11
    have hst1 : evR ⟨kd, nm, tx, es⟩ = false → lkStep k ⟨kd, nm, tx, es⟩ = { k with at_ := k.good, err := 180 } := by
      intro he; simp [lkStep, herr, he]
    cases he : evR ⟨kd, nm, tx, es⟩ with
    | false =>
      have hend := lkI_stop (ms := ms) (i := i + 1) (by rw [hsuc]; dsimp only; rw [hst1 he]; simp)
      rw [hsuc] at hend
      dsimp only at hend
      rw [hst1 he] at hend
      refine sgo ?_
      (first | refine fp1 (.inl rfl) rfl rfl ?_ | refine fp2 (.inl rfl) rfl rfl rfl ?_ | refine fp3 (.inl rfl) rfl rfl rfl rfl ?_ | refine fp0 (.inr rfl) rfl ?_ | refine fp0 (.inl rfl) rfl ?_ | refine fp1 (.inr rfl) rfl rfl ?_)
      refine .inl ⟨?_, ?_, ?_⟩
      · rw [hend]; exact hok.2.1 ▸ hJat _ _ hS
      · rw [hend]; exact (by decide : (180 : Int) ≠ 0)
      · rw [hend]; show _ = Value.tuple #[int k.good, int 180, .slice none 0 0]; rw [hok.2.1]; rfl
    | true =>
      refine sgo ?_
      refine wcutt (X := Unit) (fun _ => [(1, .func (.func f) #[] ⟨cap⟩), (4, int 0), (5, int 0), (6, .slice none 0 0), (7, ptrAt (pb b7) 0), (8, int i), (9, ptrAt (pb b9) 0), (13, .slice p ms.length c), (14, int ms.length), (15, int i)])
        (fun _ w' => (lkStep k ⟨kd, nm, tx, es⟩).err = 0 ∧ Sep w0 w' [pOwn b9 [int kd, str nm, str tx, .slice mp es.length mc], pOwn b7 [.slice q k.stack.length cc], pRow 1 q k.stack.length cc (strs k.stack)]) ?_ ?_
      · (show WC _ _ _ _ _ _ _; first | refine WC_dec rfl (fun hc => ?_) (fun hc => ?_) | refine WC_cond rfl (fun hc => ?_) (fun hc => ?_))
        · replace hc : kd = 2 := hc
          subst hc
          refine sgo ?_
          refine wlpure (top_ok b7 q cc k.stack (by omega) w0 w11 [] hS.tail) fun w12 hf12 => ?_
          replace hS := hS.grow hf12
          have h3 : lkStep k ⟨2, nm, tx, es⟩ = if k.stack.getLast? = some nm then ⟨k.stack.dropLast, k.most, 0, 0, k.good + 1⟩ else { k with at_ := k.good, err := 181 } := by
            simp [lkStep, herr, he]
          refine sgo ?_
          have hB2 : pkb (!(!decide (k.stack = []))) true (decide (k.stack.getLast?.getD [] ≠ nm)) = !decide (k.stack.getLast? = some nm) := by
            cases hl : k.stack.getLast? with
            | none => rw [List.getLast?_eq_none_iff.1 hl]; rfl
            | some z =>
              have hne : k.stack ≠ [] := by intro h; rw [h] at hl; cases hl
              simp [hne, pkb]
          rw [hB2]
          by_cases hl : k.stack.getLast? = some nm
          · rw [if_pos hl] at h3
            simp only [hl, decide_true, Bool.not_true]
            refine sgo ?_
            exact ⟨(), ⟨rfl, rfl, rfl, rfl, rfl, rfl, rfl, rfl, rfl, rfl, trivial⟩, by rw [h3], hS⟩
          · rw [if_neg hl] at h3
            have hend := lkI_stop (ms := ms) (i := i + 1) (by rw [hsuc]; dsimp only; rw [h3]; exact (by decide : (181 : Int) ≠ 0))
            rw [hsuc] at hend
            dsimp only at hend
            rw [h3] at hend
            simp only [hl, decide_false, Bool.not_false]
            refine sgo ?_
            (first | refine fp1 (.inl rfl) rfl rfl ?_ | refine fp2 (.inl rfl) rfl rfl rfl ?_ | refine fp3 (.inl rfl) rfl rfl rfl rfl ?_ | refine fp0 (.inr rfl) rfl ?_ | refine fp0 (.inl rfl) rfl ?_ | refine fp1 (.inr rfl) rfl rfl ?_)
            refine .inl ⟨?_, ?_, ?_⟩
            · rw [hend]; exact hok.2.1 ▸ hJat _ _ hS
            · rw [hend]; exact (by decide : (181 : Int) ≠ 0)
            · rw [hend]; show _ = Value.tuple #[int k.good, int 181, .slice none 0 0]; rw [hok.2.1]; rfl
        · replace hc : ¬ kd = 2 := hc
          refine sgo ?_
          refine ⟨(), ⟨rfl, rfl, rfl, rfl, rfl, rfl, rfl, rfl, rfl, rfl, trivial⟩, ?_, hS⟩
          simp only [lkStep, herr, he, if_true, if_neg hc]
          split <;> (try split) <;> rfl
      · clear hS
        rintro _ w12 ρ2 ⟨hright, hS⟩
        obtain ⟨-, hstep⟩ := lk_right herr hright
        dsimp only at hsuc
        have hsee' := hsee i w12 _ (hJat _ _ hS) hx (by rw [hk]; exact herr) (by rw [hsuc]; exact hright)
        rw [hk] at hsee'
        refine sgo ?_
        refine wlcallv (f := f) (first := []) (args := [int k.stack.length, .agg ⟨EvM.cells ⟨⟨kd, nm, tx, es⟩, mp, mc⟩⟩]) (cap := cap) hsee' ?_
        rintro _ w13 ⟨bb, N, rfl, hle, hN, hpost⟩
        obtain ⟨w1, hw1, hS⟩ := hS.rebase hle (by rw [hw0]; exact hN)
        rw [hw0] at hw1
        cases bb with
        | false =>
          simp only [Bool.false_eq_true, if_false] at hpost
          refine sgo ?_
          refine wcdraw ?_
          refine qgo ?_
          refine QL_nil ?_
          intro w14 hf14
          have hS4 := hS.grow hf14
          refine sgo ?_
          (first | refine fp1 (.inl rfl) rfl rfl ?_ | refine fp2 (.inl rfl) rfl rfl rfl ?_ | refine fp3 (.inl rfl) rfl rfl rfl rfl ?_ | refine fp0 (.inr rfl) rfl ?_ | refine fp0 (.inl rfl) rfl ?_ | refine fp1 (.inr rfl) rfl rfl ?_)
          exact .inr (.inr ⟨i, q, k.stack.length, cc, hlt, by rw [hsuc]; exact hright, hstx i _ _ hpost (hw1 ▸ Same.of_sep hS hS4), rfl⟩)
        | true =>
          simp only [if_true] at hpost
          have hjn : ∀ w' ds, Sep w1 w' ds → J (i + 1) w' := fun w' ds h => hst _ _ _ hpost (hw1 ▸ Same.of_sep hS h)
          refine sgo ?_
          (show WC _ _ _ _ _ _ _; first | refine WC_dec rfl (fun hc => ?_) (fun hc => ?_) | refine WC_cond rfl (fun hc => ?_) (fun hc => ?_))
          · replace hc : kd = 1 := hc
            subst hc
            refine sgo ?_
            refine wlcall (push_ok b7 q cc k.stack nm (by omega) w1 w13 [] hS.tail) ?_
            rintro _ w14 ⟨q', c', hS⟩
            refine sgo ?_
            refine ⟨(i + 1, q', c'), ⟨rfl, rfl, rfl, rfl, rfl, rfl, rfl, rfl, trivial⟩, ⟨hlt, by dsimp only; rw [hsuc]; exact hright, hjn _ _ hS, w1, hw1, ?_⟩, (by (try dsimp only); omega)⟩
            dsimp only
            rw [hsuc, hstep]
            exact hS
          · replace hc : ¬ kd = 1 := hc
            have hk1 := hc
            clear hc
            refine sgo ?_
            (show WC _ _ _ _ _ _ _; first | refine WC_dec rfl (fun hc => ?_) (fun hc => ?_) | refine WC_cond rfl (fun hc => ?_) (fun hc => ?_))
            · replace hc : kd = 2 := hc
              subst hc
              have hne : k.stack ≠ [] := by
                intro h
                revert hright
                simp [lkStep, herr, he, h]
              refine sgo ?_
              refine wlcall (pop_ok b7 q cc k.stack (by omega) hne w1 w13 [] hS.tail) ?_
              rintro _ w14 hS
              refine sgo ?_
              refine ⟨(i + 1, q, cc), ⟨rfl, rfl, rfl, rfl, rfl, rfl, rfl, rfl, trivial⟩, ⟨hlt, by dsimp only; rw [hsuc]; exact hright, hjn _ _ hS, w1, hw1, ?_⟩, (by (try dsimp only); omega)⟩
              dsimp only
              rw [hsuc, hstep]
              exact hS
            · replace hc : ¬ kd = 2 := hc
              have hk2 := hc
              clear hc
              refine sgo ?_
              refine ⟨(i + 1, q, cc), ⟨rfl, rfl, rfl, rfl, rfl, rfl, rfl, rfl, trivial⟩, ⟨hlt, by dsimp only; rw [hsuc]; exact hright, hjn _ _ hS, w1, hw1, ?_⟩, (by (try dsimp only); omega)⟩
              dsimp only
              rw [hsuc, hstep]
              dsimp only
              rw [if_neg hk1, if_neg hk2]
              exact hS.tail
  · obtain rfl : i = ms.length := by omega
    rw [lkI_all] at *
    clear hc
    refine sgo ?_
    refine wcdraw ?_
    refine qgo ?_
    refine QL_nil ?_
    intro w1 hf1
    have hS4 := hS.grow hf1
    refine sgo ?_
    (first | refine fp1 (.inl rfl) rfl rfl ?_ | refine fp2 (.inl rfl) rfl rfl rfl ?_ | refine fp3 (.inl rfl) rfl rfl rfl rfl ?_ | refine fp0 (.inr rfl) rfl ?_ | refine fp0 (.inl rfl) rfl ?_ | refine fp1 (.inr rfl) rfl rfl ?_)
    exact .inr (.inl ⟨hst _ _ _ hJ (hw0 ▸ Same.of_sep hS hS4), herr, q, cc, w0, rfl, hw0, hS4.tail⟩)
end Go.Proofs.YthgbpgjpnaanlaaDoor

/-
  Package link: paths without dot segments; the twins.
-/
set_option linter.unusedSimpArgs false
set_option linter.unusedVariables false
set_option linter.unnecessarySimpa false
namespace Go.Sv
open Go Go.RowKit
section
variable {P : Program} {σ : Env} {w : World} {d : Option Tmp} {ty t t' : TypeId} {pos : String} {af : Array Edge} {g : Option (Nat × Bool)} {x y : Operand} {a b : Int} {ats : Array TypeId}
theorem y_max (hx : evl σ x = int a) (hy : evl σ y = int b) : Y P σ ⟨d, .call ⟨.builtin .max, #[x, y], ats⟩, ty, pos, af, g⟩ w (int (max a b)) w := by
  refine Y.val ?_; simp only [execOp, resolve, Sem.run_bind, Sem.run_pure, Result.andThen_ok, invoke, builtin]
  have e : (if b > a then b else a) = max a b := by omega
  simp [hx, hy, Builtin.max_, Builtin.max2, e]
end
end Go.Sv
namespace Go.Proofs.YthgbpgjpnaanlaaDoor
open Go Go.Sv Go.RowKit

/-- how many bytes stand ahead of the first of some -/
def upR (l sm : List UInt8) : Nat := (l.takeWhile fun c => decide (c ∉ sm)).length
theorem upR_le (l sm : List UInt8) : upR l sm ≤ l.length := (List.takeWhile_sublist _).length_le
theorem upR_cons (c : UInt8) (l sm : List UInt8) : upR (c :: l) sm = if c ∈ sm then 0 else upR l sm + 1 := by
  unfold upR
  rw [List.takeWhile_cons]
  by_cases h : c ∈ sm <;> simp [h]
theorem upR_at : ∀ (l sm : List UInt8) (i : Nat), i < l.length → (∀ j, j < i → UInt8.ofNat (at0 l j) ∉ sm) → UInt8.ofNat (at0 l i) ∈ sm → upR l sm = i
  | [], _, i, h, _, _ => by simp at h
  | c :: l, sm, 0, _, _, h => by
    rw [upR_cons, if_pos (by simpa [at0] using h)]
  | c :: l, sm, i + 1, hi, hj, h => by
    have h0 := hj 0 (by omega)
    rw [upR_cons, if_neg (by simpa [at0] using h0), upR_at l sm i (by simpa using hi) (fun j hj' => by have := hj (j + 1) (by omega); simpa [at0] using this) (by simpa [at0] using h)]
theorem upR_all : ∀ (l sm : List UInt8), (∀ j, j < l.length → UInt8.ofNat (at0 l j) ∉ sm) → upR l sm = l.length
  | [], _, _ => rfl
  | c :: l, sm, hj => by
    have h0 := hj 0 (by simp)
    rw [upR_cons, if_neg (by simpa [at0] using h0), upR_all l sm (fun j hj' => by have := hj (j + 1) (by simpa using hj'); simpa [at0] using this)]
    rfl
theorem indexByte_up : ∀ (l : List UInt8) (c : UInt8), Lib.indexByte l c = if c ∈ l then (upR l [c] : Int) else -1
  | [], c => by simp [Lib.indexByte]
  | b :: l, c => by
    have h := indexByte_up l c
    have hg := Lib.indexByte_ge l c
    simp only [Lib.indexByte, upR_cons, List.mem_cons, List.mem_singleton, List.not_mem_nil, or_false]
    by_cases hb : b = c
    · simp [hb]
    · have hb' : ¬ c = b := fun h => hb h.symm
      simp only [beq_iff_eq, hb, hb', if_false, false_or]
      by_cases hm : c ∈ l
      · rw [if_pos hm] at h ⊢
        rw [h, if_neg (by omega)]; omega
      · rw [if_neg hm] at h ⊢
        rw [h]; rfl
theorem up_not {l : List UInt8} {c : UInt8} (h : c ∉ l) : upR l [c] = l.length := by
  refine upR_all l [c] fun j hj hm => h ?_
  simp only [at0, List.getElem?_eq_getElem hj, Option.getD_some, List.mem_singleton] at hm
  rw [← hm]
  simp
theorem hasPrefix_ok (s p : List UInt8) (w : World) : PureC Tryd.prog 154 #[str s, str p] w (.bool (p.isPrefixOf s)) := by
  refine Calls.mono (Tryd.strings_HasPrefix ⟨s.toArray⟩ ⟨p.toArray⟩ w) ?_
  rintro e w' ⟨rfl, rfl⟩
  exact ⟨_, rfl, rfl, Frm.refl _⟩













/-- the last place below n where c stands -/
def lastF (l : List UInt8) (c : Nat) : Nat → Int
  | 0 => -1
  | n + 1 => if at0 l n = c then n else lastF l c n
def lastR (l : List UInt8) (c : Nat) : Int := lastF l c l.length
theorem lastF_rng (l : List UInt8) (c : Nat) : ∀ n, -1 ≤ lastF l c n ∧ lastF l c n < n
  | 0 => by simp [lastF]
  | n + 1 => by
    have := lastF_rng l c n
    simp only [lastF]
    split <;> omega


































def parR (l : List UInt8) : List UInt8 := l.take (max (lastR l 47) 0).toNat













def pfx (p l : List UInt8) : Bool := p.isPrefixOf l
/-- a segment's end -/
def segN (l : List UInt8) : Nat := 1 + upR (l.drop 1) [47]
def dotStep (l out : List UInt8) : List UInt8 × List UInt8 :=
  if pfx [46, 46, 47] l then (l.drop 3, out)
  else if pfx [46, 47] l then (l.drop 2, out)
  else if pfx [47, 46, 47] l then (l.drop 2, out)
  else if l = [47, 46] then ([47], out)
  else if pfx [47, 46, 46, 47] l then (l.drop 3, parR out)
  else if l = [47, 46, 46] then ([47], parR out)
  else if l = [46] ∨ l = [46, 46] then ([], out)
  else (l.drop (segN l), out ++ l.take (segN l))
def dotsF : Nat → List UInt8 → List UInt8 → List UInt8
  | 0, _, out => out
  | f + 1, l, out => if l = [] then out else dotsF f (dotStep l out).1 (dotStep l out).2
theorem pfx_len {p l : List UInt8} (h : pfx p l = true) : p.length ≤ l.length := (List.isPrefixOf_iff_prefix.1 h).length_le
theorem dotStep_lt (l out : List UInt8) (h : l ≠ []) : (dotStep l out).1.length < l.length := by
  have h0 : 0 < l.length := List.length_pos_iff.2 h
  unfold dotStep
  repeat' split
  all_goals rename_i h1
  all_goals (try have hp := pfx_len h1)
  all_goals (try simp only [List.length_cons, List.length_nil] at hp)
  all_goals (try simp only [List.length_drop, segN])
  all_goals (try omega)
  all_goals (try (subst h1; simp; done))
  all_goals (try (simp; omega))
theorem dotsF_more : ∀ (f f' : Nat) (l out : List UInt8), l.length ≤ f → l.length ≤ f' → dotsF f l out = dotsF f' l out
  | 0, 0, _, _, _, _ => rfl
  | 0, f' + 1, l, out, h, _ => by
    have : l = [] := List.eq_nil_of_length_eq_zero (by omega)
    simp [dotsF, this]
  | f + 1, 0, l, out, _, h => by
    have : l = [] := List.eq_nil_of_length_eq_zero (by omega)
    simp [dotsF, this]
  | f + 1, f' + 1, l, out, h, h' => by
    simp only [dotsF]
    split
    · rfl
    · rename_i hne
      have := dotStep_lt l out hne
      exact dotsF_more f f' _ _ (by omega) (by omega)
def dotsL (l out : List UInt8) : List UInt8 := dotsF l.length l out
theorem dotsL_nil (out : List UInt8) : dotsL [] out = out := rfl
theorem dotsL_step (l out : List UInt8) (h : l ≠ []) : dotsL l out = dotsL (dotStep l out).1 (dotStep l out).2 := by
  have h1 := dotStep_lt l out h
  unfold dotsL
  obtain ⟨f, hf⟩ : ∃ f, l.length = f + 1 := ⟨l.length - 1, by omega⟩
  rw [hf, dotsF, if_neg h]
  exact dotsF_more _ _ _ _ (by omega) (Nat.le_refl _)
theorem parR_len (l : List UInt8) : (parR l).length ≤ l.length := by simp only [parR, List.length_take]; omega
theorem dotStep_len (l out : List UInt8) : (dotStep l out).1.length + (dotStep l out).2.length ≤ l.length + out.length := by
  have h0 := parR_len out
  unfold dotStep
  repeat' split
  all_goals rename_i h1
  all_goals (try simp only [List.length_drop, List.length_append, List.length_take, List.length_nil])
  all_goals (try omega)
  all_goals (try (subst h1; simp; done))
  all_goals (try (subst h1; simp; omega))
end Go.Proofs.YthgbpgjpnaanlaaDoor

/-
  Package event: Nested, Open, Depth.
-/
set_option linter.unusedSimpArgs false
set_option linter.unusedVariables false
set_option linter.unnecessarySimpa false
namespace Go.Proofs.YthgbpgjpnaanlaaDoor
open Go Go.Sv Go.RowKit

theorem all_ok0 (d : Int) (e : Ev) (p : Option Addr) (c : Nat) (w : World) : PureC Tryd.prog 44 #[int d, .agg ⟨e.cells p c⟩] w (.bool true) := by
  refine enter (l := [int d, .agg ⟨e.cells p c⟩]) Tryd.func44 rfl Tryd.ntmps44 (by kernel_rfl) rfl ?_
  have hS := Sep.start w
  refine sgo ?_
  refine sbox (v := .agg ⟨e.cells p c⟩) hS fun b w1 hS => ?_
  refine sgo ?_
  (first | refine fp1 (.inl rfl) rfl rfl ?_ | refine fp2 (.inl rfl) rfl rfl rfl ?_ | refine fp3 (.inl rfl) rfl rfl rfl rfl ?_ | refine fp0 (.inr rfl) rfl ?_ | refine fp0 (.inl rfl) rfl ?_ | refine fp1 (.inr rfl) rfl rfl ?_); refine ⟨?_, by (first | exact Frm.refl _ | assumption | exact Go.Sv.Sep.frm (by assumption) | (refine Frm.trans ?_ (by assumption); first | exact Frm.refl _ | assumption))⟩; (try simp only [realB, rv_true, Nat.reduceBEq, cond_true, cond_false, entG, real_lif, updGL])
/-- walk, that nobody looks at -/
theorem walkAll_ok (ms : List EvM) (p : Option Addr) (c : Nat) (hn : ms.length ≤ 1048576) (hs : ∀ m ∈ ms, m.e.small) (w : World) (hA : Asc w) (hE : Evs w p ms) :
    CallsR Tryd.prog 43 #[.slice p ms.length c, .func (.func 44) #[] #[]] w fun v w' => Frm w w' ∧
      (((lkR (evs ms)).err ≠ 0 ∧ v = .tuple #[int (lkR (evs ms)).at_, int (lkR (evs ms)).err, .slice none 0 0]) ∨
      ((lkR (evs ms)).err = 0 ∧ ∃ q cc, v = .tuple #[int 0, int 0, .slice q (lkR (evs ms)).stack.length cc] ∧ Sep w w' [pRow 1 q (lkR (evs ms)).stack.length cc (strs (lkR (evs ms)).stack)])) := by
  refine CallsR.mono (walk_ok ms p c hn hs 44 [] w.heap.size (fun _ w' => Frm w w') (fun _ _ => False) (fun _ w' h => ⟨hE.frm h, hA.frm h⟩) (fun _ _ _ h h' => h'.frm h) (fun _ _ _ h _ => h)
    (fun i w1 m h _ _ _ => ?_) w rfl (Frm.refl w)) ?_
  · refine CallsR.mono (all_ok0 _ m.e m.p m.c w1) ?_
    rintro v w2 ⟨rfl, hf⟩
    exact ⟨true, [], rfl, hf.le, by simp, h.trans hf⟩
  · rintro v w' (⟨h1, h2, h3⟩ | ⟨h1, h2, q, cc, w0, h3, h4, h5⟩ | ⟨i, q, n, cc, _, _, h, _⟩)
    · exact ⟨h1, .inl ⟨h2, h3⟩⟩
    · refine ⟨h1, .inr ⟨h2, q, cc, h3, h1, h5.ok, fun c hc x hx => ?_, h5.apart⟩⟩
      rw [← h4]; exact h5.low c hc x hx
    · exact h.elim
theorem nested_ok (ms : List EvM) (p : Option Addr) (c : Nat) (hn : ms.length ≤ 1048576) (hs : ∀ m ∈ ms, m.e.small) (w : World) (hA : Asc w) (hE : Evs w p ms) :
    PureC Tryd.prog 15 #[.slice p ms.length c] w (.tuple #[int (lkR (evs ms)).at_, int (lkR (evs ms)).err]) := by
  refine enter (l := [.slice p ms.length c]) Tryd.func15 rfl Tryd.ntmps15 (by kernel_rfl) rfl ?_
  refine sgo ?_
  refine wlcall (walkAll_ok ms p c hn hs w hA hE) ?_
  rintro _ w1 ⟨hf, ⟨h2, rfl⟩ | ⟨h2, q, cc, rfl, hS⟩⟩
  · refine sgo ?_
    (first | refine fp1 (.inl rfl) rfl rfl ?_ | refine fp2 (.inl rfl) rfl rfl rfl ?_ | refine fp3 (.inl rfl) rfl rfl rfl rfl ?_ | refine fp0 (.inr rfl) rfl ?_ | refine fp0 (.inl rfl) rfl ?_ | refine fp1 (.inr rfl) rfl rfl ?_); refine ⟨?_, by (first | exact Frm.refl _ | assumption | exact Go.Sv.Sep.frm (by assumption) | (refine Frm.trans ?_ (by assumption); first | exact Frm.refl _ | assumption))⟩; (try simp only [realB, rv_true, Nat.reduceBEq, cond_true, cond_false, entG, real_lif, updGL])
  · have h0 := (lk_ok h2).1
    refine sgo ?_
    (first | refine fp1 (.inl rfl) rfl rfl ?_ | refine fp2 (.inl rfl) rfl rfl rfl ?_ | refine fp3 (.inl rfl) rfl rfl rfl rfl ?_ | refine fp0 (.inr rfl) rfl ?_ | refine fp0 (.inl rfl) rfl ?_ | refine fp1 (.inr rfl) rfl rfl ?_); refine ⟨?_, by (first | exact Frm.refl _ | assumption | exact Go.Sv.Sep.frm (by assumption) | (refine Frm.trans ?_ (by assumption); first | exact Frm.refl _ | assumption))⟩; (try simp only [realB, rv_true, Nat.reduceBEq, cond_true, cond_false, entG, real_lif, updGL])
    rw [h0, h2]; rfl
theorem open_ok (ms : List EvM) (p : Option Addr) (c : Nat) (hn : ms.length ≤ 1048576) (hs : ∀ m ∈ ms, m.e.small) (w : World) (hA : Asc w) (hE : Evs w p ms) :
    CallsR Tryd.prog 16 #[.slice p ms.length c] w fun v w' => Frm w w' ∧
      (((lkR (evs ms)).err ≠ 0 ∧ v = .tuple #[.slice none 0 0, int (lkR (evs ms)).err]) ∨
      ((lkR (evs ms)).err = 0 ∧ ∃ q cc, v = .tuple #[.slice q (lkR (evs ms)).stack.length cc, int 0] ∧ Sep w w' [pRow 1 q (lkR (evs ms)).stack.length cc (strs (lkR (evs ms)).stack)])) := by
  refine enter (l := [.slice p ms.length c]) Tryd.func16 rfl Tryd.ntmps16 (by kernel_rfl) rfl ?_
  refine sgo ?_
  refine wlcall (walkAll_ok ms p c hn hs w hA hE) ?_
  rintro _ w1 ⟨hf, ⟨h2, rfl⟩ | ⟨h2, q, cc, rfl, hS⟩⟩
  · refine sgo ?_
    (first | refine fp1 (.inl rfl) rfl rfl ?_ | refine fp2 (.inl rfl) rfl rfl rfl ?_ | refine fp3 (.inl rfl) rfl rfl rfl rfl ?_ | refine fp0 (.inr rfl) rfl ?_ | refine fp0 (.inl rfl) rfl ?_ | refine fp1 (.inr rfl) rfl rfl ?_)
    exact ⟨hf, .inl ⟨h2, rfl⟩⟩
  · refine sgo ?_
    (first | refine fp1 (.inl rfl) rfl rfl ?_ | refine fp2 (.inl rfl) rfl rfl rfl ?_ | refine fp3 (.inl rfl) rfl rfl rfl rfl ?_ | refine fp0 (.inr rfl) rfl ?_ | refine fp0 (.inl rfl) rfl ?_ | refine fp1 (.inr rfl) rfl rfl ?_)
    exact ⟨hf, .inr ⟨h2, q, cc, rfl, hS⟩⟩

def mostR (m d : Nat) (k : Int) : Nat := if k = 1 ∨ k = 3 then max m (d + 1) else m
set_option maxHeartbeats 1000000 in
theorem depth1_ok (d : Nat) (e : Ev) (p : Option Addr) (c : Nat) (b : Nat) (m : Nat) (hd : d ≤ 1048576) (w : World) (ho : Own w b [int m]) :
    CallsR Tryd.prog 45 #[int d, .agg ⟨e.cells p c⟩, ptrAt (pb b) 0] w fun v w' => v = .bool true ∧ Own w' b [int (mostR m d e.kind)] ∧ Le [b] w w' := by
  obtain ⟨k, nm, tx, es⟩ := e
  refine enter (l := [int d, .agg ⟨Ev.cells ⟨k, nm, tx, es⟩ p c⟩, ptrAt (pb b) 0]) Tryd.func45 rfl Tryd.ntmps45 (by kernel_rfl) rfl ?_
  refine sgo ?_
  refine wlbox (v := .agg ⟨Ev.cells ⟨k, nm, tx, es⟩ p c⟩) (hx := rfl) fun b4 w1 hb4 o4 hf1 => ?_
  have o1 := ho.frm hf1
  replace o4 : Own w1 b4 [int k, str nm, str tx, .slice p es.length c] := o4
  refine sgo ?_
  have hB : pkb (decide (k = 1)) true (decide (k = 3)) = decide (k = 1 ∨ k = 3) := by simp [pkb_or]
  rw [hB]
  (show WC _ _ _ _ _ _ _; first | refine WC_dec rfl (fun hc => ?_) (fun hc => ?_) | refine WC_cond rfl (fun hc => ?_) (fun hc => ?_))
  · have hk : k = 1 ∨ k = 3 := hc
    clear o4
    refine sgo ?_
    refine wl ?_ (y_max rfl rfl)
    refine wlst_int o1 (fun w2 o2 hl2 => ?_) 
    refine sgo ?_
    (first | refine fp1 (.inl rfl) rfl rfl ?_ | refine fp2 (.inl rfl) rfl rfl rfl ?_ | refine fp3 (.inl rfl) rfl rfl rfl rfl ?_ | refine fp0 (.inr rfl) rfl ?_ | refine fp0 (.inl rfl) rfl ?_ | refine fp1 (.inr rfl) rfl rfl ?_)
    refine ⟨rfl, ?_, (hf1.le).trans hl2⟩
    have e : (max (m : Int) (d + 1)) = ((mostR m d k : Nat) : Int) := by rw [mostR, if_pos hk]; omega
    rw [← e]; exact o2
  · have hk : ¬ (k = 1 ∨ k = 3) := hc
    refine sgo ?_
    (first | refine fp1 (.inl rfl) rfl rfl ?_ | refine fp2 (.inl rfl) rfl rfl rfl ?_ | refine fp3 (.inl rfl) rfl rfl rfl rfl ?_ | refine fp0 (.inr rfl) rfl ?_ | refine fp0 (.inl rfl) rfl ?_ | refine fp1 (.inr rfl) rfl rfl ?_)
    refine ⟨rfl, ?_, hf1.le⟩
    rw [mostR, if_neg hk]; exact o1
theorem lk_most {k : Lk} {e : Ev} (h0 : k.err = 0) (h : (lkStep k e).err = 0) : (lkStep k e).most = mostR k.most k.stack.length e.kind := by rw [(lk_right h0 h).2]; rfl
set_option maxHeartbeats 1000000 in
theorem depth_ok (ms : List EvM) (p : Option Addr) (c : Nat) (hn : ms.length ≤ 1048576) (hs : ∀ m ∈ ms, m.e.small) (w : World) (hA : Asc w) (hE : Evs w p ms) :
    PureC Tryd.prog 17 #[.slice p ms.length c] w (if (lkR (evs ms)).err = 0 then .tuple #[int (lkR (evs ms)).most, int 0] else .tuple #[int 0, int (lkR (evs ms)).err]) := by
  refine enter (l := [.slice p ms.length c]) Tryd.func17 rfl Tryd.ntmps17 (by kernel_rfl) rfl ?_
  refine sgo ?_
  refine wlalloc fun b4 w4 hb4 o4 hf4 => ?_
  replace o4 : Own w4 b4 [int 0] := o4
  refine sgo ?_
  refine wlst_int o4 (fun w5 o5 hl5 => ?_)
  replace o5 : Own w5 b4 [int ((0 : Nat) : Int)] := o5
  have hf5 : Frm w w5 := hf4.step hl5 (by simpa using hb4)
  have hlt := o5.lt
  refine sgo ?_
  refine wlcall (walk_ok ms p c hn hs 45 [ptrAt (pb b4) 0] w5.heap.size (fun i w' => Own w' b4 [int (lkI ms i).most] ∧ Frm w w') (fun _ _ => False) (fun _ w' h => ⟨hE.frm h.2, hA.frm h.2⟩)
    (fun _ w1 w2 h h' => ⟨h.1.same h' hlt, ?_⟩) (fun _ _ _ h _ => h) (fun i w1 m h hx h0 h1 => ?_) w5 rfl ⟨o5, hf5⟩) ?_
  · exact ⟨h'.os.trans h.2.os, h'.tape.trans h.2.tape, h'.output.trans h.2.output, Nat.le_trans hf5.size h'.size, fun k hk => (h'.block k (Nat.lt_of_lt_of_le hk hf5.size)).trans (h.2.block k hk)⟩
  · have hlen : i < ms.length := by
      rcases Nat.lt_or_ge i ms.length with h | h
      · exact h
      · rw [List.getElem?_eq_none h] at hx; cases hx
    have hb := lkI_ok (Nat.le_of_lt hlen) h0
    refine CallsR.mono (depth1_ok (lkI ms i).stack.length m.e m.p m.c b4 (lkI ms i).most (by omega) w1 h.1) ?_
    rintro v w2 ⟨rfl, ho, hl⟩
    refine ⟨true, [b4], rfl, hl, by simpa using hlt, ?_⟩
    rw [if_pos rfl, lkI_succ hx, lk_most h0 (by rw [← lkI_succ hx]; exact h1)]
    exact ⟨ho, h.2.step hl (by simpa using hb4)⟩
  · rintro v w' (⟨⟨h1, hf⟩, h2, rfl⟩ | ⟨⟨h1, hf⟩, h2, q, cc, w0, rfl, h4, h5⟩ | ⟨i, q, n, cc, _, _, h, _⟩)
    · rw [if_neg h2]
      refine sgo ?_
      refine wcyes ?_ (ht := by simpa using h2)
      refine sgo ?_
      (first | refine fp1 (.inl rfl) rfl rfl ?_ | refine fp2 (.inl rfl) rfl rfl rfl ?_ | refine fp3 (.inl rfl) rfl rfl rfl rfl ?_ | refine fp0 (.inr rfl) rfl ?_ | refine fp0 (.inl rfl) rfl ?_ | refine fp1 (.inr rfl) rfl rfl ?_); refine ⟨?_, by (first | exact Frm.refl _ | assumption | exact Go.Sv.Sep.frm (by assumption) | (refine Frm.trans ?_ (by assumption); first | exact Frm.refl _ | assumption))⟩; (try simp only [realB, rv_true, Nat.reduceBEq, cond_true, cond_false, entG, real_lif, updGL])
    · rw [if_pos h2]
      rw [lkI_all] at h1
      refine sgo ?_
      (first | refine fp1 (.inl rfl) rfl rfl ?_ | refine fp2 (.inl rfl) rfl rfl rfl ?_ | refine fp3 (.inl rfl) rfl rfl rfl rfl ?_ | refine fp0 (.inr rfl) rfl ?_ | refine fp0 (.inl rfl) rfl ?_ | refine fp1 (.inr rfl) rfl rfl ?_); refine ⟨?_, by (first | exact Frm.refl _ | assumption | exact Go.Sv.Sep.frm (by assumption) | (refine Frm.trans ?_ (by assumption); first | exact Frm.refl _ | assumption))⟩; (try simp only [realB, rv_true, Nat.reduceBEq, cond_true, cond_false, entG, real_lif, updGL])
    · exact h.elim
end Go.Proofs.YthgbpgjpnaanlaaDoor

/-
  Loops over functions, with memory in pieces.
-/
set_option linter.unusedSimpArgs false
set_option linter.unusedVariables false
set_option linter.unnecessarySimpa false
namespace Go.Sv
open Go Go.RowKit
def pLoop (l : Nat) (r : Loop) : Plot where
  foot := [l]
  ok w := LoopAt w l r
  view := (none, [])
  loc _ _ h hb := (hb l (by simp)).trans h
  lt _ h x hx := by rw [List.mem_singleton.1 hx]; exact h.lt
  sg _ _ := .inl rfl
def pDef (D : Nat) : Plot where
  foot := [D]
  ok w := NoDef w D
  view := (none, [])
  loc _ _ h hb := (hb D (by simp)).trans h
  lt _ h x hx := by rw [List.mem_singleton.1 hx]; exact h.lt
  sg _ _ := .inl rfl
section
variable {w0 w w' : World} {cs : List Plot} {l D i : Nat} {r r' : Loop}
theorem Sep.loop (h : Sep w0 w cs) (hf : Frm w w') (hL : LoopAt w' l r) (hN : NoDef w' D) (hl : w.heap.size ≤ l) (hD : w.heap.size ≤ D) (hne : l ≠ D) : Sep w0 w' (pLoop l r :: pDef D :: cs) := by
  refine h.seq (ds := [pLoop l r, pDef D]) ⟨hf, ?_, ?_, ?_⟩
  · intro c hc
    rcases List.mem_cons.1 hc with rfl | hc
    · exact hL
    · rw [List.mem_singleton.1 hc]; exact hN
  · intro c hc x hx
    rcases List.mem_cons.1 hc with rfl | hc
    · rw [List.mem_singleton.1 hx]; exact hl
    · rw [List.mem_singleton.1 hc] at hx; rw [List.mem_singleton.1 hx]; exact hD
  · rw [List.pairwise_cons]
    refine ⟨fun b hb x hx hx' => ?_, List.pairwise_singleton _ _⟩
    rw [List.mem_singleton.1 hb] at hx'
    rw [List.mem_singleton.1 hx] at hx'
    exact hne (List.mem_singleton.1 hx')
theorem Sep.loopAt (h : Sep w0 w cs) (i : Nat) (hi : cs[i]? = some (pLoop l r)) : LoopAt w l r := h.at (c := pLoop l r) i hi
theorem Sep.noDef (h : Sep w0 w cs) (i : Nat) (hi : cs[i]? = some (pDef D)) : NoDef w D := h.at (c := pDef D) i hi
theorem Sep.turnLoop (h : Sep w0 w cs) (i : Nat) (hi : cs[i]? = some (pLoop l r)) (hl : Le [l] w w') (hL : LoopAt w' l r') : Sep w0 w' (cs.set i (pLoop l r')) :=
  h.upd i hi (lm_own hl) hL
/-- a piece that is given away -/
theorem Sep.lose {c : Plot} (h : Sep w0 w (c :: cs)) (hl : Le c.foot w w') : Sep w0 w' cs := by
  have hp := h.apart
  rw [List.pairwise_cons] at hp
  exact h.tail.le hl (fun d hd x hx hm => hp.1 d hd x hm hx) (h.low _ List.mem_cons_self)
theorem Sep.undef (h : Sep w0 w (pDef D :: cs)) : Sep w0 (w.putObj D (.deferred none)) cs := h.lose (le_putObj w D _)
end
end Go.Sv

/-
  Package event: Close; slices.Backward.
-/
set_option linter.unusedSimpArgs false
set_option linter.unusedVariables false
set_option linter.unnecessarySimpa false
namespace Go.Proofs.YthgbpgjpnaanlaaDoor
open Go Go.Sv Go.RowKit

set_option maxHeartbeats 1000000 in
theorem back1_ok (lr b : Nat) (L : List (List UInt8)) (q : Option Addr) (c : Nat) (hn : L.length ≤ 1048576) (J Jx : Nat → World → Prop)
    (hres : ∀ i w, J i w → Own w b [.slice q L.length c] ∧ Sg w q (strs L))
    (hY : ∀ i w x, J i w → i < L.length → L.reverse[i]? = some x → Yld Tryd.prog lr [int ((L.length - 1 - i : Nat) : Int), str x] w fun bb w' => if bb then J (i + 1) w' else Jx i w')
    (w : World) (h0 : J 0 w) :
    CallsR Tryd.prog 79 #[.func (.yield lr) #[] #[], ptrAt (pb b) 0] w fun _ w' => J L.length w' ∨ ∃ i, i < L.length ∧ Jx i w' := by
  obtain ⟨ho, hsg⟩ := hres 0 w h0
  refine enter (l := [.func (.yield lr) #[] #[], ptrAt (pb b) 0]) Tryd.func79 rfl Tryd.ntmps79 (by kernel_rfl) rfl ?_
  refine sgo ?_
  refine wcloop (X := Nat) (fun i => [(0, .func (.yield lr) #[] #[]), (1, ptrAt (pb b) 0), (3, int ((L.length : Int) - 1 - i))])
    (fun i wr => i ≤ L.length ∧ J i wr) (fun i => L.length - i) 0 ⟨rfl, rfl, ?_, trivial⟩ ⟨Nat.zero_le _, h0⟩ ?_
  · show Value.int .i64 ((L.length : Int) - 1) = _
    simp
  clear ho hsg
  rintro i wr ρ ⟨hil, hJ⟩
  obtain ⟨ho, hsg⟩ := hres i wr hJ
  refine sgo ?_
  (show WC _ _ _ _ _ _ _; first | refine WC_dec rfl (fun hc => ?_) (fun hc => ?_) | refine WC_cond rfl (fun hc => ?_) (fun hc => ?_))
  · have hlt : i < L.length := by omega
    have hx : L.reverse[i]? = some L[L.length - 1 - i] := by rw [List.getElem?_reverse hlt, List.getElem?_eq_getElem (by omega)]
    have hg : (strs L)[((L.length : Int) - 1 - i).toNat]? = some (str L[L.length - 1 - i]) := by
      rw [show ((L.length : Int) - 1 - i).toNat = L.length - 1 - i by omega]; exact strs_get _
    have hy := hY i wr _ hJ hlt hx
    rw [show ((L.length - 1 - i : Nat) : Int) = (L.length : Int) - 1 - i by omega] at hy
    generalize L[L.length - 1 - i] = x at *
    have hq : ∃ a, q = some a := hsg.some (by rw [strs_len]; omega)
    clear hc
    refine sgo ?_
    refine wlyield hy fun bb w2 h2 => ?_
    cases bb with
    | false =>
      refine sgo ?_
      (first | refine fp1 (.inl rfl) rfl rfl ?_ | refine fp2 (.inl rfl) rfl rfl rfl ?_ | refine fp3 (.inl rfl) rfl rfl rfl rfl ?_ | refine fp0 (.inr rfl) rfl ?_ | refine fp0 (.inl rfl) rfl ?_ | refine fp1 (.inr rfl) rfl rfl ?_)
      exact .inr ⟨i, hlt, h2⟩
    | true =>
      refine sgo ?_
      refine ⟨i + 1, ⟨rfl, rfl, ?_, trivial⟩, ⟨hlt, h2⟩, (by (try dsimp only); omega)⟩
      show Value.int .i64 ((L.length : Int) - 1 - i - 1) = int ((L.length : Int) - 1 - ((i + 1 : Nat) : Int))
      congr 1; omega
  · obtain rfl : i = L.length := by omega
    refine sgo ?_
    (first | refine fp1 (.inl rfl) rfl rfl ?_ | refine fp2 (.inl rfl) rfl rfl rfl ?_ | refine fp3 (.inl rfl) rfl rfl rfl rfl ?_ | refine fp0 (.inr rfl) rfl ?_ | refine fp0 (.inl rfl) rfl ?_ | refine fp1 (.inr rfl) rfl rfl ?_)
    exact .inl hJ
def closeE (n : List UInt8) : Ev := ⟨2, n, [], []⟩
/-- the events that close, in memory -/
def closeM (n : List UInt8) : EvM := ⟨closeE n, none, 0⟩
/-- what Open tells -/
def openS (k : Lk) : List (List UInt8) := if k.err = 0 then k.stack else []
theorem openS_len (ms : List EvM) : (openS (lkR (evs ms))).length ≤ ms.length := by
  have := (lk_bound (evs ms)).1
  rw [evs_len] at this
  unfold openS
  split
  · exact this
  · exact Nat.zero_le _
theorem open_ok2 (ms : List EvM) (p : Option Addr) (c : Nat) (hn : ms.length ≤ 1048576) (hs : ∀ m ∈ ms, m.e.small) (w0 w : World) (cs : List Plot) (hS : Sep w0 w cs) (hA : Asc w) (hE : Evs w p ms) :
    CallsR Tryd.prog 16 #[.slice p ms.length c] w fun v w' => ∃ q cc, v = .tuple #[.slice q (openS (lkR (evs ms))).length cc, int (lkR (evs ms)).err] ∧ Frm w w' ∧ Sep w0 w' (pRow 1 q (openS (lkR (evs ms))).length cc (strs (openS (lkR (evs ms)))) :: cs) := by
  refine CallsR.mono (open_ok ms p c hn hs w hA hE) ?_
  rintro _ w1 ⟨hf, ⟨h2, rfl⟩ | ⟨h2, q, cc, rfl, hS2⟩⟩
  · rw [openS, if_neg h2]
    exact ⟨none, 0, rfl, hf, hS.push hf (Row.nil w1 1) (by simp [pRow, rb])⟩
  · rw [openS, if_pos h2, h2]
    exact ⟨q, cc, rfl, hf, hS.seq hS2⟩
theorem back_ok (q : Option Addr) (n c : Nat) (w0 w : World) (cs : List Plot) (hS : Sep w0 w cs) :
    CallsR Tryd.prog 46 #[.slice q n c] w fun v w' => ∃ b, v = .func (.func 79) #[] #[ptrAt (pb b) 0] ∧ Frm w w' ∧ Sep w0 w' (pOwn b [.slice q n c] :: cs) := by
  refine enter (l := [.slice q n c]) Tryd.func46 rfl Tryd.ntmps46 (by kernel_rfl) rfl ?_
  refine WC_seq ?_
  refine WC_region ?_
  refine wlbox (v := .slice q n c) (fun b w1 hb ho hf => ?_) (hx := rfl)
  have hS1 : Sep w0 w1 (pOwn b [.slice q n c] :: cs) := hS.push hf ho (by simpa [pOwn] using hb)
  refine sgo ?_
  (first | refine fp1 (.inl rfl) rfl rfl ?_ | refine fp2 (.inl rfl) rfl rfl rfl ?_ | refine fp3 (.inl rfl) rfl rfl rfl rfl ?_ | refine fp0 (.inr rfl) rfl ?_ | refine fp0 (.inl rfl) rfl ?_ | refine fp1 (.inr rfl) rfl rfl ?_)
  exact ⟨b, rfl, hf, hS1⟩
theorem closeM_len (n : List UInt8) : (closeM n).cells.length = 4 := rfl
theorem closeM_flat (l : List (List UInt8)) (n : List UInt8) : (l.map closeM).flatMap EvM.cells ++ (closeM n).cells = ((l ++ [n]).map closeM).flatMap EvM.cells := by simp
set_option maxHeartbeats 2000000 in
theorem close_ok (ms : List EvM) (p : Option Addr) (c : Nat) (hn : ms.length ≤ 1048576) (hs : ∀ m ∈ ms, m.e.small) (w0 w : World) (cs : List Plot) (hS : Sep w0 w cs) (hA : Asc w) (hE : Evs w p ms) :
    CallsR Tryd.prog 18 #[.slice p ms.length c] w fun v w' => ∃ q cc, v = .tuple #[.slice q (openS (lkR (evs ms))).length cc, int (lkR (evs ms)).err] ∧ Frm w w' ∧ Sep w0 w' (pRow 4 q (openS (lkR (evs ms))).length cc (((openS (lkR (evs ms))).reverse.map closeM).flatMap EvM.cells) :: cs) := by
  have hS0 := hS
  replace hS := Sep.start w
  have hlen := openS_len ms
  refine enter (l := [.slice p ms.length c]) Tryd.func18 rfl Tryd.ntmps18 (by kernel_rfl) rfl ?_
  refine sgo ?_
  refine wlcall (open_ok2 ms p c hn hs w w [] hS hA hE) ?_
  rintro _ w1 ⟨q, cc, rfl, -, hS⟩
  generalize openS (lkR (evs ms)) = st at *
  generalize (lkR (evs ms)).err = er at *
  refine sgo ?_
  refine salloc hS fun b6 w6 hS => ?_
  replace hS : Sep w w6 [pOwn b6 [.slice none 0 0], pRow 1 q st.length cc (strs st)] := hS
  refine sgo ?_
  refine wlcall (back_ok q st.length cc w w6 _ hS) ?_
  rintro _ w7 ⟨b, rfl, -, hS⟩
  refine sgo ?_
  refine wcrangef (cap := [ptrAt (pb b) 0]) rfl rfl ?_
  intro fn lr D w8 hD hlr hne hf8 hL hN
  replace hS := hS.loop hf8 hL hN hlr hD hne
  replace hS := (hS.push (c := pRow 4 none 0 0 []) (Frm.refl w8) (Row.nil w8 4) (by simp [pRow, rb]))
  refine CallsR.mono (back1_ok lr b st q cc (by omega)
    (fun i w' => i ≤ st.length ∧ ∃ q3 c3, Sep w w' [pRow 4 q3 i c3 (((st.reverse.take i).map closeM).flatMap EvM.cells), pLoop lr _, pDef D, pOwn b [.slice q st.length cc], pOwn b6 [.slice q3 i c3], pRow 1 q st.length cc (strs st)])
    (fun _ _ => False) ?_ ?_ w8 ⟨Nat.zero_le _, none, 0, hS⟩) ?_
  · rintro i w' ⟨_, q3, c3, hS⟩
    exact ⟨hS.own 3 rfl, (hS.row 5 rfl).sg⟩
  · rintro i w' x ⟨hi, q3, c3, hS⟩ hlt hx
    refine yld_of (hS.loopAt 1 rfl) rfl (by kernel_rfl) ?_
    refine sgo ?_
    refine ⟨hS.loopAt 1 rfl, fun w5 hl5 hL5 => ?_⟩
    replace hS := hS.turnLoop 1 rfl hl5 hL5
    refine sgo ?_
    refine wlbuild ?_
    refine sb1a (vs := (closeM x).cells) hS fun b9 w9 hS => ?_
    refine sapp hS 1 (hS.own 0 rfl).sg (fun q4 c4 w10 hS => ?_) (h1 := ev_one _ _ _)
    replace hS := hS.tail
    rw [closeM_flat, show (st.reverse.take i ++ [x]) = st.reverse.take (i + 1) from by rw [List.take_add_one, hx]; rfl] at hS
    refine sst_slice hS 4 fun w11 hS => ?_
    refine sgo ?_
    refine rnd_normal (hS.loopAt 1 rfl) fun w12 hl12 hL12 => ?_
    exact ⟨hlt, q4, c4, hS.turnLoop 1 rfl hl12 hL12⟩
  · rintro v w4 hor
    obtain ⟨_, q3, c3, hS⟩ := hor.resolve_right fun ⟨_, _, h⟩ => h
    refine ⟨.ready, none, by simp, hS.loopAt 1 rfl, fun w5 hl5 => aft_none ?_⟩
    rw [← List.length_reverse, List.take_length] at hS
    rw [List.length_reverse] at hS
    replace hS := Sep.lose (hS.front 1 rfl) hl5
    refine sgo ?_
    refine fp_mark (.inl rfl) (hS.noDef 1 rfl) ?_
    (first | refine fp1 (.inl rfl) rfl rfl ?_ | refine fp2 (.inl rfl) rfl rfl rfl ?_ | refine fp3 (.inl rfl) rfl rfl rfl rfl ?_ | refine fp0 (.inr rfl) rfl ?_ | refine fp0 (.inl rfl) rfl ?_ | refine fp1 (.inr rfl) rfl rfl ?_)
    replace hS := (hS.front 1 rfl).undef
    exact ⟨q3, c3, rfl, hS.frm, hS0.seq (ds := [_]) (hS.sub (List.Sublist.cons_cons _ (List.nil_sublist _)))⟩
end Go.Proofs.YthgbpgjpnaanlaaDoor

/-
  Structs of texts, numbers and bools compared.
-/
set_option linter.unusedSimpArgs false
set_option linter.unusedVariables false
set_option linter.unnecessarySimpa false
namespace Go.Sv
open Go Go.RowKit
def plainB (P : Program) : List Field → Nat → List TypeDesc → Bool
  | [], _, [] => true
  | f :: fs, k, d :: ds => (f.name != "_") && (f.offset == k) && (match P.underlying f.type, d with
    | some .string, .string => true
    | some .bool, .bool => true
    | some (.int a), .int b => kEq a b
    | _, _ => false) && plainB P fs (k + 1) ds
  | _, _, _ => false
/-- a struct whose fields are one cell each: texts, bools, numbers -/
class PlainS (P : Program) (t : TypeId) (ds : outParam (List TypeDesc)) : Prop where
  ok : ∃ fs, P.underlying t = some (.struct fs) ∧ plainB P fs.toList 0 ds = true ∧ P.stoodInHeld t = false ∧ P.eqGuardType P.depth t = false
/-- are two structs the same? -/
def eqL : List TypeDesc → List Value → List Value → Option Bool
  | [], [], [] => some true
  | .string :: ds, .string ⟨⟨a⟩⟩ :: xs, .string ⟨⟨b⟩⟩ :: ys => match eqL ds xs ys with | some r => some (decide (a = b) && r) | none => none
  | .bool :: ds, .bool a :: xs, .bool b :: ys => match eqL ds xs ys with | some r => some (decide (a = b) && r) | none => none
  | .int k :: ds, .int k1 a :: xs, .int k2 b :: ys => match kEq k k1, kEq k k2, eqL ds xs ys with | true, true, some r => some (decide (a = b) && r) | _, _, _ => none
  | _, _, _ => none
section
variable {P : Program} {w : World}
theorem run_part {t : TypeId} {d : TypeDesc} (hu : P.underlying t = some d) (hd : (match d with | .struct _ | .array _ _ => true | _ => false) = false) {cs : Array Value} {off : Nat} {v : Value} (hv : cs[off]? = some v) : (part t cs off).run P w = .ok v w := by
  have hi : (isAgg t).run P w = .ok false w := by
    simp only [isAgg, underlying, Sem.run_bind, run_program, Result.andThen_ok, hu, Sem.run_pure]
    rw [← hd]
    cases d <;> rfl
  simp [part, hi, hv]
theorem str_beq (a b : List UInt8) : ((ByteArray.mk ⟨a⟩).toList == (ByteArray.mk ⟨b⟩).toList) = decide (a = b) := by
  rw [ByteArray.toList_eq, ByteArray.toList_eq]
  exact lbeq a b
theorem eqFields_plain (d : Nat) (X Y : Array Value) : ∀ (fs : List Field) (k : Nat) (ds : List TypeDesc) (xs ys : List Value) (r : Bool), plainB P fs k ds = true → X.toList.drop k = xs → Y.toList.drop k = ys → eqL ds xs ys = some r →
    (Op.eqFields (d + 1) X Y fs).run P w = .ok r w := by
  intro fs
  induction fs with
  | nil =>
    intro k ds xs ys r hp hX hY he
    cases ds with
    | nil =>
      cases xs <;> cases ys <;> simp [eqL] at he
      subst he; rfl
    | cons d ds => simp [plainB] at hp
  | cons f fs ih =>
    intro k ds xs ys r hp hX hY he
    cases ds with
    | nil => simp [plainB] at hp
    | cons d0 ds =>
      simp only [plainB, Bool.and_eq_true] at hp
      obtain ⟨⟨⟨hn, ho⟩, ht⟩, hp⟩ := hp
      have hn' : f.name ≠ "_" := by simpa using hn
      have ho' : f.offset = k := by simpa using ho
      have tailX : ∀ v l, xs = v :: l → X[k]? = some v ∧ X.toList.drop (k + 1) = l := by
        intro v l h
        rw [h] at hX
        have h1 : X.toList[k]? = some v := by
          have := congrArg (·[0]?) hX
          simpa using this
        refine ⟨by simpa using h1, ?_⟩
        have := congrArg (List.drop 1) hX
        simpa [Nat.add_comm] using this
      have tailY : ∀ v l, ys = v :: l → Y[k]? = some v ∧ Y.toList.drop (k + 1) = l := by
        intro v l h
        rw [h] at hY
        have h1 : Y.toList[k]? = some v := by
          have := congrArg (·[0]?) hY
          simpa using this
        refine ⟨by simpa using h1, ?_⟩
        have := congrArg (List.drop 1) hY
        simpa [Nat.add_comm] using this
      simp only [Op.eqFields, if_pos hn', ho']
      unfold eqL at he
      split at he
      · contradiction
      · rename_i ds' a xs' b ys' hq
        injection hq with q1 q2
        subst q1 q2
        obtain ⟨x1, x2⟩ := tailX _ _ rfl
        obtain ⟨y1, y2⟩ := tailY _ _ rfl
        have hu : P.underlying f.type = some .string := by
          revert ht
          cases P.underlying f.type with
          | none => intro h; cases h
          | some u => cases u <;> intro h <;> first | rfl | cases h
        split at he
        · rename_i r' hr'
          obtain rfl := Option.some.inj he
          have := ih (k + 1) _ xs' ys' r' hp x2 y2 hr'
          simp only [Sem.run_bind, run_part hu rfl x1, run_part hu rfl y1, Result.andThen_ok, run_equalIn_string w d f.type _ _ hu, str_beq]
          cases decide (a = b) <;> simp [this]
        · cases he
      · rename_i ds' a xs' b ys' hq
        injection hq with q1 q2
        subst q1 q2
        obtain ⟨x1, x2⟩ := tailX _ _ rfl
        obtain ⟨y1, y2⟩ := tailY _ _ rfl
        have hu : P.underlying f.type = some .bool := by
          revert ht
          cases P.underlying f.type with
          | none => intro h; cases h
          | some u => cases u <;> intro h <;> first | rfl | cases h
        split at he
        · rename_i r' hr'
          obtain rfl := Option.some.inj he
          have := ih (k + 1) _ xs' ys' r' hp x2 y2 hr'
          have hbb : (a == b) = decide (a = b) := by cases a <;> cases b <;> rfl
          simp only [Sem.run_bind, run_part hu rfl x1, run_part hu rfl y1, Result.andThen_ok, run_equalIn_bool' w d f.type _ _ hu, hbb]
          cases decide (a = b) <;> simp [this]
        · cases he
      · rename_i kk ds' k1 a xs' k2 b ys' hq
        injection hq with q1 q2
        subst q1 q2
        obtain ⟨x1, x2⟩ := tailX _ _ rfl
        obtain ⟨y1, y2⟩ := tailY _ _ rfl
        split at he
        · rename_i r' e1 e2 hr'
          obtain rfl := Option.some.inj he
          obtain rfl := kEq_eq e1
          obtain rfl := kEq_eq e2
          have hu : P.underlying f.type = some (.int kk) := by
            revert ht
            cases P.underlying f.type with
            | none => intro h; cases h
            | some u => cases u <;> intro h <;> first | (rw [kEq_eq h]) | cases h
          have := ih (k + 1) _ xs' ys' r' hp x2 y2 hr'
          have hbb : (a == b) = decide (a = b) := by by_cases e : a = b <;> simp [e]
          simp only [Sem.run_bind, run_part hu rfl x1, run_part hu rfl y1, Result.andThen_ok, run_equalIn_int w d f.type _ _ _ _ hu, hbb]
          cases decide (a = b) <;> simp [this]
        · cases he
      · cases he
variable {σ : Env} {d : Option Tmp} {ty t t' : TypeId} {pos : String} {af : Array Edge} {g : Option (Nat × Bool)} {x y : Operand} {ds : List TypeDesc} {xs ys : List Value} {r : Bool}
theorem run_eqS [h : PlainS P t ds] (he : eqL ds xs ys = some r) (k : Nat) : (Op.equalIn (k + 2) t (.agg ⟨xs⟩) (.agg ⟨ys⟩)).run P w = .ok r w := by
  obtain ⟨fs, h1, h2, h3, _⟩ := h.ok
  have hf : P.fieldsOf t = fs := by simp [Program.fieldsOf, h1]
  rw [run_equalIn_struct w (k + 1) t _ _ (by rw [hf]; exact h1) h3, hf]
  exact eqFields_plain k ⟨xs⟩ ⟨ys⟩ fs.toList 0 ds xs ys r h2 rfl rfl he
theorem y_aeql [h : PlainS P t ds] (hx : evl σ x = .agg ⟨xs⟩) (hy : evl σ y = .agg ⟨ys⟩) (he : eqL ds xs ys = some r) : Y P σ ⟨d, .binOp .eql t x y t', ty, pos, af, g⟩ w (.bool r) w := by
  obtain ⟨fs, h1, h2, h3, h4⟩ := h.ok
  refine Y.val ?_
  simp only [execOp, hx, hy, Sem.run_bind, run_eqGuard_agg w .eql t x y _ _ h4, Result.andThen_ok, run_eql_struct]
  rw [show (10000 : Nat) = 9998 + 2 from rfl, run_eqS he]
  rfl
theorem y_aneq [h : PlainS P t ds] (hx : evl σ x = .agg ⟨xs⟩) (hy : evl σ y = .agg ⟨ys⟩) (he : eqL ds xs ys = some r) : Y P σ ⟨d, .binOp .neq t x y t', ty, pos, af, g⟩ w (.bool (!r)) w := by
  obtain ⟨fs, h1, h2, h3, h4⟩ := h.ok
  refine Y.val ?_
  simp only [execOp, hx, hy, Sem.run_bind, run_eqGuard_agg w .neq t x y _ _ h4, Result.andThen_ok, run_neq_struct]
  rw [show (10000 : Nat) = 9998 + 2 from rfl, run_eqS he]
  rfl
end
end Go.Sv

/- This seat's plain structs as instances (made by a program of ours). -/
namespace Go.Proofs.YthgbpgjpnaanlaaDoor
open Go Go.Sv
instance : PlainS Tryd.prog 50 [.string, .string] := ⟨_, Tryd.underlying50, by kernel_rfl, by kernel_rfl, by kernel_rfl⟩
instance : PlainS Tryd.prog 51 [.string, .string] := ⟨_, Tryd.underlying51, by kernel_rfl, by kernel_rfl, by kernel_rfl⟩
instance : PlainS Tryd.prog 88 [.int .i64, .int .i64, .int .i64] := ⟨_, Tryd.underlying88, by kernel_rfl, by kernel_rfl, by kernel_rfl⟩
instance : PlainS Tryd.prog 89 [.int .i64, .int .i64, .int .i64] := ⟨_, Tryd.underlying89, by kernel_rfl, by kernel_rfl, by kernel_rfl⟩
instance : PlainS Tryd.prog 127 [.int .i32, .int .i64, .int .i64, .bool] := ⟨_, Tryd.underlying127, by kernel_rfl, by kernel_rfl, by kernel_rfl⟩
instance : PlainS Tryd.prog 128 [.int .i32, .int .i64, .int .i64, .bool] := ⟨_, Tryd.underlying128, by kernel_rfl, by kernel_rfl, by kernel_rfl⟩
instance : PlainS Tryd.prog 195 [.string] := ⟨_, Tryd.underlying195, by kernel_rfl, by kernel_rfl, by kernel_rfl⟩
instance : PlainS Tryd.prog 196 [.string] := ⟨_, Tryd.underlying196, by kernel_rfl, by kernel_rfl, by kernel_rfl⟩
end Go.Proofs.YthgbpgjpnaanlaaDoor

/-
  sieveref18: Same, Equal, Ends; sievelaw18: own, same.
-/
set_option linter.unusedSimpArgs false
set_option linter.unusedVariables false
set_option linter.unnecessarySimpa false
namespace Go.Proofs.YthgbpgjpnaanlaaDoor
open Go Go.Sv Go.RowKit

theorem att_at {es : List At} {i : Nat} {x : At} (h : es[i]? = some x) : ((es.flatMap At.cells).drop (i * 2)).take 2 = x.cells := fm_seg At.len es h
set_option maxHeartbeats 2000000 in
theorem evSame_ok (a b : EvM) (ha : a.e.small) (hb : b.e.small) (w : World) (hi : Im [] w a.p (a.e.attrs.flatMap At.cells)) (hj : Im [] w b.p (b.e.attrs.flatMap At.cells)) :
    PureC Tryd.prog 25 #[.agg ⟨a.cells⟩, .agg ⟨b.cells⟩] w (.bool (decide (a.e = b.e))) := by
  obtain ⟨⟨ka, na, ta, es⟩, pa, ca⟩ := a
  obtain ⟨⟨kb, nb, tb, fs⟩, pb', cb⟩ := b
  have h1 := ha.attrs
  have h2 := hb.attrs
  dsimp only at hi hj h1 h2
  have hl1 := fm_len At.len es
  have hl2 := fm_len At.len fs
  refine enter (l := [.agg ⟨EvM.cells ⟨⟨ka, na, ta, es⟩, pa, ca⟩⟩, .agg ⟨EvM.cells ⟨⟨kb, nb, tb, fs⟩, pb', cb⟩⟩]) Tryd.func25 rfl Tryd.ntmps25 (by kernel_rfl) rfl ?_
  have hS := Sep.start w
  refine WC_seq ?_
  refine WC_region ?_
  refine sbox (v := .agg ⟨EvM.cells ⟨⟨ka, na, ta, es⟩, pa, ca⟩⟩) hS fun b2 w1 hS => ?_
  replace hS : Sep w w1 [pOwn b2 [int ka, str na, str ta, .slice pa es.length ca]] := hS
  refine sbox (v := .agg ⟨EvM.cells ⟨⟨kb, nb, tb, fs⟩, pb', cb⟩⟩) hS fun b3 w2 hS => ?_
  replace hS : Sep w w2 [pOwn b3 [int kb, str nb, str tb, .slice pb' fs.length cb], pOwn b2 [int ka, str na, str ta, .slice pa es.length ca]] := hS
  refine sgo ?_
  (show WC _ _ _ _ _ _ _; first | refine WC_dec rfl (fun hc => ?_) (fun hc => ?_) | refine WC_cond rfl (fun hc => ?_) (fun hc => ?_))
  · have hne : (⟨ka, na, ta, es⟩ : Ev) ≠ ⟨kb, nb, tb, fs⟩ := by
      intro h
      injection h with e1 e2 e3 e4
      subst e1 e2 e3 e4
      simp [pkb_or] at hc
    refine sgo ?_
    (first | refine fp1 (.inl rfl) rfl rfl ?_ | refine fp2 (.inl rfl) rfl rfl rfl ?_ | refine fp3 (.inl rfl) rfl rfl rfl rfl ?_ | refine fp0 (.inr rfl) rfl ?_ | refine fp0 (.inl rfl) rfl ?_ | refine fp1 (.inr rfl) rfl rfl ?_); refine ⟨?_, by (first | exact Frm.refl _ | assumption | exact Go.Sv.Sep.frm (by assumption) | (refine Frm.trans ?_ (by assumption); first | exact Frm.refl _ | assumption))⟩; (try simp only [realB, rv_true, Nat.reduceBEq, cond_true, cond_false, entG, real_lif, updGL])
    rw [decide_eq_false hne]
  · simp only [pkb_or, Bool.or_eq_false_iff, decide_eq_false_iff_not, Decidable.not_not] at hc
    obtain ⟨⟨⟨rfl, rfl⟩, rfl⟩, hlen⟩ := hc
    have hle : es.length = fs.length := by omega
    clear hlen
    refine sgo ?_
    refine wcloop (X := Nat) (fun i => [(2, ptrAt (pb b2) 0), (3, ptrAt (pb b3) 0), (36, int es.length), (37, int i)])
      (fun i wr => i ≤ es.length ∧ es.take i = fs.take i ∧ Sep w wr [pOwn b3 [int ka, str na, str ta, .slice pb' fs.length cb], pOwn b2 [int ka, str na, str ta, .slice pa es.length ca]]) (fun i => es.length - i) 0 ⟨rfl, rfl, rfl, rfl, trivial⟩ ⟨Nat.zero_le _, rfl, hS⟩ ?_
    clear hS
    rintro i wr ρ ⟨hil, hpre, hS⟩
    refine sgo ?_
    (show WC _ _ _ _ _ _ _; first | refine WC_dec rfl (fun hc => ?_) (fun hc => ?_) | refine WC_cond rfl (fun hc => ?_) (fun hc => ?_))
    · have hlt : i < es.length := by omega
      have hx : es[i]? = some es[i] := List.getElem?_eq_getElem hlt
      have hy : fs[i]? = some fs[i] := List.getElem?_eq_getElem (by omega)
      have hsx := att_at hx
      have hsy := att_at hy
      have hpa : ∃ a, pa = some a := hi.some (by omega)
      have hpb : ∃ a, pb' = some a := hj.some (by omega)
      have htx : es.take (i + 1) = es.take i ++ [es[i]] := by rw [List.take_add_one, hx]; rfl
      have hty : fs.take (i + 1) = fs.take i ++ [fs[i]] := by rw [List.take_add_one, hy]; rfl
      generalize es[i] = x at *
      generalize fs[i] = y at *
      clear hc
      refine sgo ?_
      refine wcdraw ?_
      refine qgo ?_
      rw [hsx, hsy]
      refine ql (v := .bool (!(decide (x.n = y.n) && (decide (x.v = y.v) && true)))) ?_ (YQ.ofY fun w _ => y_aneq rfl rfl rfl)
      refine QL_nil ?_
      intro w3 hf3
      replace hS := hS.grow hf3
      obtain ⟨xn, xv⟩ := x
      obtain ⟨yn, yv⟩ := y
      refine sgo ?_
      (show WC _ _ _ _ _ _ _; first | refine WC_dec rfl (fun hc => ?_) (fun hc => ?_) | refine WC_cond rfl (fun hc => ?_) (fun hc => ?_))
      · have hne : (⟨ka, na, ta, es⟩ : Ev) ≠ ⟨ka, na, ta, fs⟩ := by
          intro h
          injection h with e1 e2 e3 e4
          subst e4
          rw [hx] at hy
          injection hy with hy
          injection hy with e1 e2
          subst e1 e2
          simp at hc
        refine sgo ?_
        (first | refine fp1 (.inl rfl) rfl rfl ?_ | refine fp2 (.inl rfl) rfl rfl rfl ?_ | refine fp3 (.inl rfl) rfl rfl rfl rfl ?_ | refine fp0 (.inr rfl) rfl ?_ | refine fp0 (.inl rfl) rfl ?_ | refine fp1 (.inr rfl) rfl rfl ?_); refine ⟨?_, by (first | exact Frm.refl _ | assumption | exact Go.Sv.Sep.frm (by assumption) | (refine Frm.trans ?_ (by assumption); first | exact Frm.refl _ | assumption))⟩; (try simp only [realB, rv_true, Nat.reduceBEq, cond_true, cond_false, entG, real_lif, updGL])
        rw [decide_eq_false hne]
      · refine sgo ?_
        refine ⟨i + 1, ⟨rfl, rfl, rfl, rfl, trivial⟩, ⟨hlt, ?_, hS⟩, (by (try dsimp only); omega)⟩
        rw [htx, hty, hpre]
        simp at hc
        rw [hc.1, hc.2]
    · obtain rfl : i = es.length := by omega
      rw [List.take_length, hle, List.take_length] at hpre
      refine sgo ?_
      (first | refine fp1 (.inl rfl) rfl rfl ?_ | refine fp2 (.inl rfl) rfl rfl rfl ?_ | refine fp3 (.inl rfl) rfl rfl rfl rfl ?_ | refine fp0 (.inr rfl) rfl ?_ | refine fp0 (.inl rfl) rfl ?_ | refine fp1 (.inr rfl) rfl rfl ?_); refine ⟨?_, by (first | exact Frm.refl _ | assumption | exact Go.Sv.Sep.frm (by assumption) | (refine Frm.trans ?_ (by assumption); first | exact Frm.refl _ | assumption))⟩; (try simp only [realB, rv_true, Nat.reduceBEq, cond_true, cond_false, entG, real_lif, updGL])
      rw [hpre, decide_eq_true rfl]
set_option maxHeartbeats 1000000 in
theorem evEqual_ok (ms ns : List EvM) (p q : Option Addr) (c cc : Nat) (h1 : ms.length ≤ 1048577) (h2 : ns.length ≤ 1048577) (hs : ∀ m ∈ ms, m.e.small) (hs2 : ∀ m ∈ ns, m.e.small) (w : World) (hE : Evs w p ms) (hF : Evs w q ns) :
    PureC Tryd.prog 20 #[.slice p ms.length c, .slice q ns.length cc] w (.bool (decide (evs ms = evs ns))) := by
  refine enter (l := [.slice p ms.length c, .slice q ns.length cc]) Tryd.func20 rfl Tryd.ntmps20 (by kernel_rfl) rfl ?_
  refine sgo ?_
  (show WC _ _ _ _ _ _ _; first | refine WC_dec rfl (fun hc => ?_) (fun hc => ?_) | refine WC_cond rfl (fun hc => ?_) (fun hc => ?_))
  · have hne : evs ms ≠ evs ns := by
      intro h
      have := congrArg List.length h
      rw [evs_len, evs_len] at this
      have hc' : ¬ ((ms.length : Int) = ns.length) := hc
      omega
    refine sgo ?_
    (first | refine fp1 (.inl rfl) rfl rfl ?_ | refine fp2 (.inl rfl) rfl rfl rfl ?_ | refine fp3 (.inl rfl) rfl rfl rfl rfl ?_ | refine fp0 (.inr rfl) rfl ?_ | refine fp0 (.inl rfl) rfl ?_ | refine fp1 (.inr rfl) rfl rfl ?_); refine ⟨?_, by (first | exact Frm.refl _ | assumption | exact Go.Sv.Sep.frm (by assumption) | (refine Frm.trans ?_ (by assumption); first | exact Frm.refl _ | assumption))⟩; (try simp only [realB, rv_true, Nat.reduceBEq, cond_true, cond_false, entG, real_lif, updGL])
    rw [decide_eq_false hne]
  have hle : ms.length = ns.length := by
    have : ¬ ((ms.length : Int) ≠ ns.length) := hc
    omega
  clear hc
  refine sgo ?_
  refine wcloop (X := Nat) (fun i => [(0, .slice p ms.length c), (1, .slice q ns.length cc), (12, int ms.length), (13, int i)])
    (fun i wr => i ≤ ms.length ∧ (evs ms).take i = (evs ns).take i ∧ Frm w wr) (fun i => ms.length - i) 0 ⟨rfl, rfl, rfl, rfl, trivial⟩ ⟨Nat.zero_le _, rfl, Frm.refl _⟩ ?_
  rintro i wr ρ ⟨hil, hpre, hf⟩
  have hEr := hE.frm hf
  have hFr := hF.frm hf
  refine sgo ?_
  (show WC _ _ _ _ _ _ _; first | refine WC_dec rfl (fun hc => ?_) (fun hc => ?_) | refine WC_cond rfl (fun hc => ?_) (fun hc => ?_))
  · have hlt : i < ms.length := by omega
    have hSg := hEr.im.sg
    have hSh := hFr.im.sg
    have hIm := hEr.im
    have hIn := hFr.im
    have hx : ms[i]? = some ms[i] := List.getElem?_eq_getElem hlt
    have hy : ns[i]? = some ns[i] := List.getElem?_eq_getElem (by omega)
    have hseg := fm_seg EvM.len ms hx
    have hseh := fm_seg EvM.len ns hy
    have hat := hEr.each _ (List.getElem_mem hlt)
    have hau := hFr.each _ (List.getElem_mem (show i < ns.length by omega))
    have hsm := hs _ (List.getElem_mem hlt)
    have hsn := hs2 _ (List.getElem_mem (show i < ns.length by omega))
    have hps : ∃ q, p = some q := hSg.some (by have := fm_len EvM.len ms; omega)
    have hqs : ∃ a, q = some a := hSh.some (by have := fm_len EvM.len ns; omega)
    have hfl := fm_len EvM.len ms
    have hfl2 := fm_len EvM.len ns
    have htx : (evs ms).take (i + 1) = (evs ms).take i ++ [ms[i].e] := by rw [List.take_add_one, evs_at hx]; rfl
    have hty : (evs ns).take (i + 1) = (evs ns).take i ++ [ns[i].e] := by rw [List.take_add_one, evs_at hy]; rfl
    generalize ms[i] = m at *
    generalize ns[i] = n at *
    clear hc
    refine sgo ?_
    refine wcdraw ?_
    refine qgo ?_
    rw [hseg, hseh]
    refine qlcallp (fun w' hw' => evSame_ok m n hsm hsn w' (hat.frm hw') (hau.frm hw')) ?_
    refine qgo ?_
    refine QL_nil ?_
    intro wd hwd
    have hfd := hf.trans hwd
    refine sgo ?_
    (show WC _ _ _ _ _ _ _; first | refine WC_dec rfl (fun hc => ?_) (fun hc => ?_) | refine WC_cond rfl (fun hc => ?_) (fun hc => ?_))
    · have hne : evs ms ≠ evs ns := by
        intro h
        rw [h] at htx
        rw [htx] at hty
        have := List.append_cancel_left hty
        simp at this
        simp [this] at hc
      refine sgo ?_
      (first | refine fp1 (.inl rfl) rfl rfl ?_ | refine fp2 (.inl rfl) rfl rfl rfl ?_ | refine fp3 (.inl rfl) rfl rfl rfl rfl ?_ | refine fp0 (.inr rfl) rfl ?_ | refine fp0 (.inl rfl) rfl ?_ | refine fp1 (.inr rfl) rfl rfl ?_); refine ⟨?_, by (first | exact Frm.refl _ | assumption | exact Go.Sv.Sep.frm (by assumption) | (refine Frm.trans ?_ (by assumption); first | exact Frm.refl _ | assumption))⟩; (try simp only [realB, rv_true, Nat.reduceBEq, cond_true, cond_false, entG, real_lif, updGL])
      rw [decide_eq_false hne]
    · refine sgo ?_
      refine ⟨i + 1, ⟨rfl, rfl, rfl, rfl, trivial⟩, ⟨hlt, ?_, hfd⟩, (by (try dsimp only); omega)⟩
      rw [htx, hty, hpre]
      simp at hc
      rw [hc]
  · obtain rfl : i = ms.length := by omega
    refine sgo ?_
    (first | refine fp1 (.inl rfl) rfl rfl ?_ | refine fp2 (.inl rfl) rfl rfl rfl ?_ | refine fp3 (.inl rfl) rfl rfl rfl rfl ?_ | refine fp0 (.inr rfl) rfl ?_ | refine fp0 (.inl rfl) rfl ?_ | refine fp1 (.inr rfl) rfl rfl ?_); refine ⟨?_, by (first | exact Frm.refl _ | assumption | exact Go.Sv.Sep.frm (by assumption) | (refine Frm.trans ?_ (by assumption); first | exact Frm.refl _ | assumption))⟩; (try simp only [realB, rv_true, Nat.reduceBEq, cond_true, cond_false, entG, real_lif, updGL])
    rw [← evs_len ms, List.take_length, evs_len, hle, ← evs_len ns, List.take_length] at hpre
    rw [hpre, decide_eq_true rfl]
/-- two lists of names -/
theorem sameNames_ok (l m : List (List UInt8)) (p q : Option Addr) (c cc : Nat) (h1 : l.length ≤ 1048576) (h2 : m.length ≤ 1048576) (w : World) (hl : Im [] w p (strs l)) (hm : Im [] w q (strs m)) :
    PureC Tryd.prog 21 #[.slice p l.length c, .slice q m.length cc] w (.bool (decide (l = m))) := by
  refine enter (l := [.slice p l.length c, .slice q m.length cc]) Tryd.func21 rfl Tryd.ntmps21 (by kernel_rfl) rfl ?_
  refine sgo ?_
  (show WC _ _ _ _ _ _ _; first | refine WC_dec rfl (fun hc => ?_) (fun hc => ?_) | refine WC_cond rfl (fun hc => ?_) (fun hc => ?_))
  · have hne : l ≠ m := by
      intro h
      subst h
      exact hc rfl
    refine sgo ?_
    (first | refine fp1 (.inl rfl) rfl rfl ?_ | refine fp2 (.inl rfl) rfl rfl rfl ?_ | refine fp3 (.inl rfl) rfl rfl rfl rfl ?_ | refine fp0 (.inr rfl) rfl ?_ | refine fp0 (.inl rfl) rfl ?_ | refine fp1 (.inr rfl) rfl rfl ?_); refine ⟨?_, by (first | exact Frm.refl _ | assumption | exact Go.Sv.Sep.frm (by assumption) | (refine Frm.trans ?_ (by assumption); first | exact Frm.refl _ | assumption))⟩; (try simp only [realB, rv_true, Nat.reduceBEq, cond_true, cond_false, entG, real_lif, updGL])
    rw [decide_eq_false hne]
  have hle : l.length = m.length := by
    have : ¬ ((l.length : Int) ≠ m.length) := hc
    omega
  clear hc
  refine sgo ?_
  refine wcloop (X := Nat) (fun i => [(0, .slice p l.length c), (1, .slice q m.length cc), (12, int l.length), (13, int i)])
    (fun i wr => i ≤ l.length ∧ l.take i = m.take i ∧ Frm w wr) (fun i => l.length - i) 0 ⟨rfl, rfl, rfl, rfl, trivial⟩ ⟨Nat.zero_le _, rfl, Frm.refl _⟩ ?_
  rintro i wr ρ ⟨hil, hpre, hf⟩
  have hSg := hl.frm hf
  have hSh := hm.frm hf
  refine sgo ?_
  (show WC _ _ _ _ _ _ _; first | refine WC_dec rfl (fun hc => ?_) (fun hc => ?_) | refine WC_cond rfl (fun hc => ?_) (fun hc => ?_))
  · have hlt : i < l.length := by omega
    have hx : l[i]? = some l[i] := List.getElem?_eq_getElem hlt
    have hy : m[i]? = some m[i] := List.getElem?_eq_getElem (by omega)
    have hgx := strs_at hx
    have hgy := strs_at hy
    have hps : ∃ q, p = some q := hSg.some (by rw [strs_len]; omega)
    have hqs : ∃ a, q = some a := hSh.some (by rw [strs_len]; omega)
    have htx : l.take (i + 1) = l.take i ++ [l[i]] := by rw [List.take_add_one, hx]; rfl
    have hty : m.take (i + 1) = m.take i ++ [m[i]] := by rw [List.take_add_one, hy]; rfl
    generalize l[i] = x at *
    generalize m[i] = y at *
    clear hc
    refine sgo ?_
    refine wcdraw ?_
    refine qgo ?_
    refine QL_nil ?_
    intro wd hwd
    have hfd := hf.trans hwd
    refine sgo ?_
    (show WC _ _ _ _ _ _ _; first | refine WC_dec rfl (fun hc => ?_) (fun hc => ?_) | refine WC_cond rfl (fun hc => ?_) (fun hc => ?_))
    · have hne : l ≠ m := by
        intro h
        subst h
        rw [htx] at hty
        have := List.append_cancel_left hty
        simp at this
        exact hc this
      refine sgo ?_
      (first | refine fp1 (.inl rfl) rfl rfl ?_ | refine fp2 (.inl rfl) rfl rfl rfl ?_ | refine fp3 (.inl rfl) rfl rfl rfl rfl ?_ | refine fp0 (.inr rfl) rfl ?_ | refine fp0 (.inl rfl) rfl ?_ | refine fp1 (.inr rfl) rfl rfl ?_); refine ⟨?_, by (first | exact Frm.refl _ | assumption | exact Go.Sv.Sep.frm (by assumption) | (refine Frm.trans ?_ (by assumption); first | exact Frm.refl _ | assumption))⟩; (try simp only [realB, rv_true, Nat.reduceBEq, cond_true, cond_false, entG, real_lif, updGL])
      rw [decide_eq_false hne]
    · have hxy : x = y := Decidable.not_not.1 hc
      refine sgo ?_
      refine ⟨i + 1, ⟨rfl, rfl, rfl, rfl, trivial⟩, ⟨hlt, ?_, hfd⟩, (by (try dsimp only); omega)⟩
      rw [htx, hty, hpre, hxy]
  · obtain rfl : i = l.length := by omega
    refine sgo ?_
    (first | refine fp1 (.inl rfl) rfl rfl ?_ | refine fp2 (.inl rfl) rfl rfl rfl ?_ | refine fp3 (.inl rfl) rfl rfl rfl rfl ?_ | refine fp0 (.inr rfl) rfl ?_ | refine fp0 (.inl rfl) rfl ?_ | refine fp1 (.inr rfl) rfl rfl ?_); refine ⟨?_, by (first | exact Frm.refl _ | assumption | exact Go.Sv.Sep.frm (by assumption) | (refine Frm.trans ?_ (by assumption); first | exact Frm.refl _ | assumption))⟩; (try simp only [realB, rv_true, Nat.reduceBEq, cond_true, cond_false, entG, real_lif, updGL])
    rw [List.take_length, hle, List.take_length] at hpre
    rw [hpre, decide_eq_true rfl]
set_option maxHeartbeats 1000000 in
theorem ends_ok (st : List (List UInt8)) (q : Option Addr) (c : Nat) (hn : st.length ≤ 1048576) (w0 w : World) (cs : List Plot) (hS0 : Sep w0 w cs) (hl : Im [] w q (strs st)) :
    CallsR Tryd.prog 22 #[.slice q st.length c] w fun v w' => ∃ q' cc, v = .slice q' st.length cc ∧ Frm w w' ∧ Sep w0 w' (pRow 4 q' st.length cc ((st.reverse.map closeM).flatMap EvM.cells) :: cs) := by
  have hS := Sep.start w
  refine enter (l := [.slice q st.length c]) Tryd.func22 rfl Tryd.ntmps22 (by kernel_rfl) rfl ?_
  refine sgo ?_
  replace hS := (hS.push (c := pRow 4 none 0 0 []) (Frm.refl w) (Row.nil w 4) (by simp [pRow, rb]))
  refine wcloop (X := Nat × Option Addr × Nat) (fun x => [(0, .slice q st.length c), (3, .slice x.2.1 x.1 x.2.2), (4, int ((st.length : Int) - 1 - x.1))])
    (fun x wr => x.1 ≤ st.length ∧ Sep w wr [pRow 4 x.2.1 x.1 x.2.2 (((st.reverse.take x.1).map closeM).flatMap EvM.cells)]) (fun x => st.length - x.1) (0, none, 0) ⟨rfl, rfl, ?_, trivial⟩ ⟨Nat.zero_le _, hS⟩ ?_
  · show Value.int .i64 ((st.length : Int) - 1) = _
    simp
  clear hS
  rintro ⟨i, q3, c3⟩ wr ρ ⟨hil, hS⟩
  dsimp only at *
  have hsg := hl.frm hS.frm
  refine sgo ?_
  (show WC _ _ _ _ _ _ _; first | refine WC_dec rfl (fun hc => ?_) (fun hc => ?_) | refine WC_cond rfl (fun hc => ?_) (fun hc => ?_))
  · have hlt : i < st.length := by omega
    have hx : st.reverse[i]? = some st[st.length - 1 - i] := by rw [List.getElem?_reverse hlt, List.getElem?_eq_getElem (by omega)]
    have hg : (strs st)[((st.length : Int) - 1 - i).toNat]? = some (str st[st.length - 1 - i]) := by
      rw [show ((st.length : Int) - 1 - i).toNat = st.length - 1 - i by omega]; exact strs_get _
    generalize st[st.length - 1 - i] = x at *
    have hq : ∃ a, q = some a := hsg.some (by rw [strs_len]; omega)
    clear hc
    refine sgo ?_
    refine wlbuild ?_
    refine sb1a (vs := (closeM x).cells) hS fun b9 w9 hS => ?_
    refine sapp hS 1 (hS.own 0 rfl).sg (fun q4 c4 w10 hS => ?_) (h1 := ev_one _ _ _)
    replace hS := hS.tail
    rw [closeM_flat, show (st.reverse.take i ++ [x]) = st.reverse.take (i + 1) from by rw [List.take_add_one, hx]; rfl] at hS
    refine sgo ?_
    refine ⟨(i + 1, q4, c4), ⟨rfl, rfl, ?_, trivial⟩, ⟨hlt, hS⟩, (by (try dsimp only); omega)⟩
    show Value.int .i64 ((st.length : Int) - 1 - i - 1) = int ((st.length : Int) - 1 - ((i + 1 : Nat) : Int))
    congr 1; omega
  · obtain rfl : i = st.length := by omega
    refine sgo ?_
    (first | refine fp1 (.inl rfl) rfl rfl ?_ | refine fp2 (.inl rfl) rfl rfl rfl ?_ | refine fp3 (.inl rfl) rfl rfl rfl rfl ?_ | refine fp0 (.inr rfl) rfl ?_ | refine fp0 (.inl rfl) rfl ?_ | refine fp1 (.inr rfl) rfl rfl ?_)
    rw [← List.length_reverse, List.take_length] at hS
    rw [List.length_reverse] at hS
    exact ⟨q3, c3, rfl, hS.frm, hS0.seq hS⟩
end Go.Proofs.YthgbpgjpnaanlaaDoor

/-
  sievelaw18: own; event: copied.
-/
set_option linter.unusedSimpArgs false
set_option linter.unusedVariables false
set_option linter.unnecessarySimpa false
namespace Go.Proofs.YthgbpgjpnaanlaaDoor
open Go Go.Sv Go.RowKit

theorem att_one (es : List At) : ∀ u ∈ es.flatMap At.cells, u.oneCell' = true := by
  intro u hu
  obtain ⟨x, _, hx⟩ := List.mem_flatMap.1 hu
  simp only [At.cells, List.mem_cons, List.not_mem_nil, or_false] at hx
  rcases hx with rfl | rfl <;> rfl
theorem evs_flat (ns : List EvM) (m : EvM) : ns.flatMap EvM.cells ++ m.cells = (ns ++ [m]).flatMap EvM.cells := by simp
theorem evs_snoc (ns : List EvM) (m : EvM) : evs (ns ++ [m]) = evs ns ++ [m.e] := by simp [evs]
set_option maxHeartbeats 2000000 in
theorem evOwn_ok (ms : List EvM) (p : Option Addr) (c : Nat) (hn : ms.length ≤ 1048576) (hs : ∀ m ∈ ms, m.e.small) (w0 w : World) (cs : List Plot) (hS0 : Sep w0 w cs) (hE : Evs w p ms) :
    CallsR Tryd.prog 14 #[.slice p ms.length c] w fun v w' => ∃ q cc ns, v = .slice q ns.length cc ∧ evs ns = evs ms ∧ Frm w w' ∧ Sep w0 w' (pRow 4 q ns.length cc (ns.flatMap EvM.cells) :: pMany (ns.map EvM.row) :: cs) := by
  have hS := Sep.start w
  refine enter (l := [.slice p ms.length c]) Tryd.func14 rfl Tryd.ntmps14 (by kernel_rfl) rfl ?_
  refine sgo ?_
  refine wlmake0 (c := ms.length + 1) (kc := .i64) (fun b w1 hb hr hf => ?_) (hy := by show Value.int .i64 ((ms.length : Int) + 1) = .int .i64 ((ms.length + 1 : Nat) : Int); rw [Int.natCast_add]; rfl)
  replace hS := (hS.push (c := pMany []) (Frm.refl w) (many_nil w) (by simp [pMany])).push (c := pRow 4 (pb b) 0 (ms.length + 1) []) hf hr (by simpa [pRow, rb] using hb)
  refine sgo ?_
  refine wcloop (X := Nat × Option Addr × Nat × List EvM) (fun x => [(3, .slice x.2.1 x.1 x.2.2.1), (10, .slice p ms.length c), (11, int ms.length), (12, int x.1)])
    (fun x wr => x.1 ≤ ms.length ∧ x.2.2.2.length = x.1 ∧ evs x.2.2.2 = (evs ms).take x.1 ∧ Sep w wr [pRow 4 x.2.1 x.1 x.2.2.1 (x.2.2.2.flatMap EvM.cells), pMany (x.2.2.2.map EvM.row)])
    (fun x => ms.length - x.1) (0, pb b, ms.length + 1, []) ⟨rfl, rfl, rfl, rfl, trivial⟩ ⟨Nat.zero_le _, rfl, rfl, hS⟩ ?_
  clear hS hr hf
  rintro ⟨i, q, cc, ns⟩ wr ρ ⟨hil, hnl, hev, hS⟩
  dsimp only at *
  have hIm := hE.im
  refine sgo ?_
  (show WC _ _ _ _ _ _ _; first | refine WC_dec rfl (fun hc => ?_) (fun hc => ?_) | refine WC_cond rfl (fun hc => ?_) (fun hc => ?_))
  · have hlt : i < ms.length := by omega
    have hx : ms[i]? = some ms[i] := List.getElem?_eq_getElem hlt
    have hmem : ms[i] ∈ ms := List.getElem_mem hlt
    have hseg := fm_seg EvM.len ms hx
    have hfl := fm_len EvM.len ms
    have hat := hE.each _ hmem
    have hsm := hs _ hmem
    have hps : ∃ a, p = some a := hE.im.sg.some (by omega)
    have htk : (evs ms).take (i + 1) = (evs ms).take i ++ [ms[i].e] := by rw [List.take_add_one, evs_at hx]; rfl
    generalize ms[i] = m at *
    clear hc
    obtain ⟨⟨kd, nm, tx, es⟩, mp, mc⟩ := m
    have hes := hsm.attrs
    dsimp only at hat hes
    have hl1 := fm_len At.len es
    refine sgo ?_
    rw [hseg]
    refine salloc hS fun b5 w5 hS => ?_
    refine sgo ?_
    refine ssta (vs := [int kd, str nm, str tx, .slice mp es.length mc]) hS 0 fun w6 hS => ?_
    replace hS : Sep w w6 [pOwn b5 [int kd, str nm, str tx, .slice mp es.length mc], pRow 4 q i cc (ns.flatMap EvM.cells), pMany (ns.map EvM.row)] := hS
    refine sgo ?_
    refine sb0 hS fun b9 w9 hS => ?_
    refine sgo ?_
    refine sapp hS 0 (hat.sep hS).sg (fun q2 c2 w10 hS => ?_) (hl := by omega) (h1 := att_one es)
    rw [List.nil_append, show 0 + es.length = es.length from Nat.zero_add _] at hS
    rw [show 0 + es.length = es.length from Nat.zero_add _]
    refine sgo ?_
    refine sst_slice hS 1 fun w11 hS => ?_
    refine sgo ?_
    refine sb1a (vs := EvM.cells ⟨⟨kd, nm, tx, es⟩, q2, c2⟩) hS fun b12 w12 hS => ?_
    refine sgo ?_
    refine sapp hS 3 (hS.own 0 rfl).sg (fun q4 c4 w13 hS => ?_) (h1 := ev_one _ _ _)
    rw [evs_flat] at hS
    refine sgo ?_
    have h1 := (hS.drop 0 rfl).drop 1 rfl
    have h2 := (((h1.front 2 rfl).front 1 rfl).more).front 1 rfl
    refine ⟨(i + 1, q4, c4, ns ++ [⟨⟨kd, nm, tx, es⟩, q2, c2⟩]), ⟨rfl, rfl, rfl, rfl, trivial⟩, ⟨hlt, by simp [hnl], by dsimp only; rw [evs_snoc, hev, htk], ?_⟩, (by (try dsimp only); omega)⟩
    rw [List.map_append]
    exact h2
  · obtain rfl : i = ms.length := by omega
    refine sgo ?_
    (first | refine fp1 (.inl rfl) rfl rfl ?_ | refine fp2 (.inl rfl) rfl rfl rfl ?_ | refine fp3 (.inl rfl) rfl rfl rfl rfl ?_ | refine fp0 (.inr rfl) rfl ?_ | refine fp0 (.inl rfl) rfl ?_ | refine fp1 (.inr rfl) rfl rfl ?_)
    rw [← evs_len ms, List.take_length] at hev
    exact ⟨q, cc, ns, by rw [hnl]; rfl, hev, hS.frm, by rw [hnl]; exact hS0.seq (ds := [_, _]) hS⟩
end Go.Proofs.YthgbpgjpnaanlaaDoor

/-
  sievelaw18: awake, EventNames.
-/
set_option linter.unusedSimpArgs false
set_option linter.unusedVariables false
set_option linter.unnecessarySimpa false
namespace Go.Proofs.YthgbpgjpnaanlaaDoor
open Go Go.Sv Go.RowKit

theorem num18_ok (k : Int) (w : World) : PureC Tryd.prog 12 #[int k] w (int k) := by
  refine enter (l := [int k]) Tryd.func12 rfl Tryd.ntmps12 (by kernel_rfl) rfl ?_
  refine sgo ?_
  (first | refine fp1 (.inl rfl) rfl rfl ?_ | refine fp2 (.inl rfl) rfl rfl rfl ?_ | refine fp3 (.inl rfl) rfl rfl rfl rfl ?_ | refine fp0 (.inr rfl) rfl ?_ | refine fp0 (.inl rfl) rfl ?_ | refine fp1 (.inr rfl) rfl rfl ?_); refine ⟨?_, by (first | exact Frm.refl _ | assumption | exact Go.Sv.Sep.frm (by assumption) | (refine Frm.trans ?_ (by assumption); first | exact Frm.refl _ | assumption))⟩; (try simp only [realB, rv_true, Nat.reduceBEq, cond_true, cond_false, entG, real_lif, updGL])
def ex1 : List EvM := [⟨⟨1, [98], [], []⟩, none, 0⟩, ⟨⟨2, [105], [], []⟩, none, 0⟩]
def ex2 : List EvM := [⟨⟨3, [98, 114], [], []⟩, none, 0⟩]
theorem ex1_lk : (lkR (evs ex1)).at_ = 1 ∧ (lkR (evs ex1)).err = 181 := by decide +kernel
theorem ex2_lk : (lkR (evs ex2)).most = 1 ∧ (lkR (evs ex2)).err = 0 := by decide +kernel
theorem exs_small : (∀ m ∈ ex1, m.e.small) ∧ ∀ m ∈ ex2, m.e.small := by
  constructor
  · intro m hm
    simp only [ex1, List.mem_cons, List.not_mem_nil, or_false] at hm
    rcases hm with rfl | rfl <;> exact ⟨by decide, by decide, by decide, by simp⟩
  · intro m hm
    simp only [ex2, List.mem_cons, List.not_mem_nil, or_false] at hm
    subst hm
    exact ⟨by decide, by decide, by decide, by simp⟩
set_option maxHeartbeats 1000000 in
theorem awake18_ok (w : World) (hA : Asc w) : PureC Tryd.prog 13 #[] w (.bool true) := by
  refine enter (l := []) Tryd.func13 rfl Tryd.ntmps13 (by kernel_rfl) rfl ?_
  have hS := Sep.start w
  refine sgo ?_
  refine wlbuild ?_
  refine wlbuild ?_
  refine wlbsr (vs := ex1.map EvM.cells) 2 (fun b w1 hb ho hf => ?_) (h1 := fun v hv => by obtain ⟨m, _, rfl⟩ := List.mem_map.1 hv; rfl)
  replace hS : Sep w w1 [pOwn b (ex1.flatMap EvM.cells)] := hS.push hf ho (by simpa [pOwn] using hb)
  refine wlpure (nested_ok ex1 (pb b) 2 (by decide) exs_small.1 w1 (hA.frm hS.frm) ⟨(hS.own 0 rfl).im (by simp), ?_⟩) fun w2 hf2 => ?_
  · intro m hm
    simp only [ex1, List.mem_cons, List.not_mem_nil, or_false] at hm
    rcases hm with rfl | rfl <;> exact Im.nil _ _ _
  replace hS := (hS.grow hf2).empty
  rw [ex1_lk.1, ex1_lk.2]
  refine sgo ?_
  refine wlbuild ?_
  refine sb1a (vs := ex2.flatMap EvM.cells) hS fun b3 w3 hS => ?_
  refine wlpure (depth_ok ex2 (pb b3) 1 (by decide) exs_small.2 w3 (hA.frm hS.frm) ⟨(hS.own 0 rfl).im (by simp), ?_⟩) fun w4 hf4 => ?_
  · intro m hm
    simp only [ex2, List.mem_cons, List.not_mem_nil, or_false] at hm
    subst hm; exact Im.nil _ _ _
  replace hS := hS.grow hf4
  rw [if_pos ex2_lk.2, ex2_lk.1]
  refine sgo ?_
  refine wlcallgp (vals := [int 181]) (fun _ => num18_ok 181 _) fun w5 hf5 => ?_
  replace hS := hS.grow hf5
  refine sgo ?_
  refine wlcallgp (vals := [int 0]) (fun _ => num18_ok 0 _) fun w6 hf6 => ?_
  replace hS := hS.grow hf6
  refine sgo ?_
  (first | refine fp1 (.inl rfl) rfl rfl ?_ | refine fp2 (.inl rfl) rfl rfl rfl ?_ | refine fp3 (.inl rfl) rfl rfl rfl rfl ?_ | refine fp0 (.inr rfl) rfl ?_ | refine fp0 (.inl rfl) rfl ?_ | refine fp1 (.inr rfl) rfl rfl ?_); refine ⟨?_, by (first | exact Frm.refl _ | assumption | exact Go.Sv.Sep.frm (by assumption) | (refine Frm.trans ?_ (by assumption); first | exact Frm.refl _ | assumption))⟩; (try simp only [realB, rv_true, Nat.reduceBEq, cond_true, cond_false, entG, real_lif, updGL])
  simp [pkb]
set_option maxHeartbeats 1000000 in
theorem eventNames_ok (w : World) (hA : Asc w) : PureC Tryd.prog 3 #[] w (.bool true) := by
  refine enter (l := []) Tryd.func3 rfl Tryd.ntmps3 (by kernel_rfl) rfl ?_
  refine sgo ?_
  refine wlpure (num18_ok 180 _) fun w1 hf1 => ?_
  refine sgo ?_
  refine wlcallgp (vals := [int 181]) (fun _ => num18_ok 181 _) fun w2 hf2 => ?_
  refine sgo ?_
  refine wlcallgp (vals := []) (fun _ => awake18_ok _ (hA.frm (hf1.trans hf2))) (fun w3 hf3 => ?_) (ha := fun _ => rfl)
  have hf := (hf1.trans hf2).trans hf3
  refine sgo ?_
  (first | refine fp1 (.inl rfl) rfl rfl ?_ | refine fp2 (.inl rfl) rfl rfl rfl ?_ | refine fp3 (.inl rfl) rfl rfl rfl rfl ?_ | refine fp0 (.inr rfl) rfl ?_ | refine fp0 (.inl rfl) rfl ?_ | refine fp1 (.inr rfl) rfl rfl ?_); refine ⟨?_, by (first | exact Frm.refl _ | assumption | exact Go.Sv.Sep.frm (by assumption) | (refine Frm.trans ?_ (by assumption); first | exact Frm.refl _ | assumption))⟩; (try simp only [realB, rv_true, Nat.reduceBEq, cond_true, cond_false, entG, real_lif, updGL])
  simp [pkb]
end Go.Proofs.YthgbpgjpnaanlaaDoor

/-
  sieveref18: At.
-/
set_option linter.unusedSimpArgs false
set_option linter.unusedVariables false
set_option linter.unnecessarySimpa false
namespace Go.Proofs.YthgbpgjpnaanlaaDoor
open Go Go.Sv Go.RowKit

theorem greater_ok (a b : Int) (w : World) : PureC Tryd.prog 47 #[int a, int b] w (int (max a b)) := by
  refine enter (l := [int a, int b]) Tryd.func47 rfl Tryd.ntmps47 (by kernel_rfl) rfl ?_
  refine sgo ?_
  (show WC _ _ _ _ _ _ _; first | refine WC_dec rfl (fun hc => ?_) (fun hc => ?_) | refine WC_cond rfl (fun hc => ?_) (fun hc => ?_))
  · refine sgo ?_
    (first | refine fp1 (.inl rfl) rfl rfl ?_ | refine fp2 (.inl rfl) rfl rfl rfl ?_ | refine fp3 (.inl rfl) rfl rfl rfl rfl ?_ | refine fp0 (.inr rfl) rfl ?_ | refine fp0 (.inl rfl) rfl ?_ | refine fp1 (.inr rfl) rfl rfl ?_); refine ⟨?_, by (first | exact Frm.refl _ | assumption | exact Go.Sv.Sep.frm (by assumption) | (refine Frm.trans ?_ (by assumption); first | exact Frm.refl _ | assumption))⟩; (try simp only [realB, rv_true, Nat.reduceBEq, cond_true, cond_false, entG, real_lif, updGL])
    rw [Int.max_eq_left (by omega)]
  · refine sgo ?_
    (first | refine fp1 (.inl rfl) rfl rfl ?_ | refine fp2 (.inl rfl) rfl rfl rfl ?_ | refine fp3 (.inl rfl) rfl rfl rfl rfl ?_ | refine fp0 (.inr rfl) rfl ?_ | refine fp0 (.inl rfl) rfl ?_ | refine fp1 (.inr rfl) rfl rfl ?_); refine ⟨?_, by (first | exact Frm.refl _ | assumption | exact Go.Sv.Sep.frm (by assumption) | (refine Frm.trans ?_ (by assumption); first | exact Frm.refl _ | assumption))⟩; (try simp only [realB, rv_true, Nat.reduceBEq, cond_true, cond_false, entG, real_lif, updGL])
    rw [Int.max_eq_right (by omega)]
def Lk.cells (k : Lk) (q : Option Addr) (c : Nat) : List Value := [.slice q k.stack.length c, int k.most, int k.at_, int k.err, int k.good]

theorem lk_next {k : Lk} {e : Ev} (h0 : k.err = 0) (he : evR e = true) : lkStep k e =
    if e.kind = 1 then ⟨k.stack ++ [e.name], max k.most (k.stack.length + 1), 0, 0, k.good + 1⟩
      else if e.kind = 3 then ⟨k.stack, max k.most (k.stack.length + 1), 0, 0, k.good + 1⟩
      else if e.kind = 2 then (if k.stack.getLast? = some e.name then ⟨k.stack.dropLast, k.most, 0, 0, k.good + 1⟩ else { k with at_ := k.good, err := 181 })
      else ⟨k.stack, k.most, 0, 0, k.good + 1⟩ := by
  rw [lkStep, if_pos h0, if_pos he]
set_option maxHeartbeats 2000000 in
theorem at_ok (ms : List EvM) (p : Option Addr) (c : Nat) (hn : ms.length ≤ 1048576) (hs : ∀ m ∈ ms, m.e.small) (w0 w : World) (cs : List Plot) (hS0 : Sep w0 w cs) (hE : Evs w p ms) :
    CallsR Tryd.prog 19 #[.slice p ms.length c] w fun v w' => ∃ q cc, v = .agg ⟨(lkR (evs ms)).cells q cc⟩ ∧ Frm w w' ∧ Sep w0 w' (pRow 1 q (lkR (evs ms)).stack.length cc (strs (lkR (evs ms)).stack) :: cs) := by
  have hS := Sep.start w
  refine enter (l := [.slice p ms.length c]) Tryd.func19 rfl Tryd.ntmps19 (by kernel_rfl) rfl ?_
  refine sgo ?_
  refine salloc hS fun b2 w2 hS => ?_
  refine sgo ?_
  refine salloc hS fun b3 w3 hS => ?_
  replace hS : Sep w w3 [pOwn b3 [.slice none 0 0, int 0, int 0, int 0, int 0], pOwn b2 [.slice none 0 0, int 0, int 0, int 0, int 0]] := hS
  replace hS := (hS.push (c := pRow 1 none 0 0 (strs [])) (Frm.refl w3) (Row.nil w3 1) (by simp [pRow, rb]))
  refine sgo ?_
  refine wcloop (X := Nat × Option Addr × Nat) (fun x => [(0, .slice p ms.length c), (2, ptrAt (pb b2) 0), (3, ptrAt (pb b3) 0), (7, .slice p ms.length c), (8, int ms.length), (9, int x.1)])
    (fun x wr => x.1 ≤ ms.length ∧ (lkI ms x.1).err = 0 ∧ Sep w wr [pRow 1 x.2.1 (lkI ms x.1).stack.length x.2.2 (strs (lkI ms x.1).stack), pOwn b3 [.slice x.2.1 (lkI ms x.1).stack.length x.2.2, int (lkI ms x.1).most, int 0, int 0, int 0], pOwn b2 [.slice none 0 0, int 0, int 0, int 0, int 0]])
    (fun x => ms.length - x.1) (0, none, 0) ⟨rfl, rfl, rfl, rfl, rfl, rfl, trivial⟩ ⟨Nat.zero_le _, rfl, hS⟩ ?_
  clear hS
  rintro ⟨i, q, cc⟩ wr ρ ⟨hil, herr, hS⟩
  dsimp only at *
  have hok := lkI_ok hil herr
  refine sgo ?_
  (show WC _ _ _ _ _ _ _; first | refine WC_dec rfl (fun hc => ?_) (fun hc => ?_) | refine WC_cond rfl (fun hc => ?_) (fun hc => ?_))
  · have hlt : i < ms.length := by omega
    have hx : ms[i]? = some ms[i] := List.getElem?_eq_getElem hlt
    have hmem : ms[i] ∈ ms := List.getElem_mem hlt
    have hseg := fm_seg EvM.len ms hx
    have hfl := fm_len EvM.len ms
    have hat := hE.each _ hmem
    have hsm := hs _ hmem
    have hps : ∃ a, p = some a := hE.im.sg.some (by omega)
    have hIm := hE.im
    have hsuc := lkI_succ hx
    generalize ms[i] = m at *
    generalize hk : lkI ms i = k at *
    clear hc
    obtain ⟨⟨kd, nm, tx, es⟩, mp, mc⟩ := m
    dsimp only at hsuc hat
    refine sgo ?_
    rw [hseg]
    refine salloc hS fun b5 w5 hS => ?_
    refine sgo ?_
    refine ssta (vs := [int kd, str nm, str tx, .slice mp es.length mc]) hS 0 fun w6 hS => ?_
    replace hS : Sep w w6 [pOwn b5 [int kd, str nm, str tx, .slice mp es.length mc], pRow 1 q k.stack.length cc (strs k.stack), pOwn b3 [.slice q k.stack.length cc, int k.most, int 0, int 0, int 0], pOwn b2 [.slice none 0 0, int 0, int 0, int 0, int 0]] := hS
    refine sgo ?_
    refine wlpure (refEvCheck_ok ⟨kd, nm, tx, es⟩ mp mc hsm w6 (hat.sep hS)) fun w7 hf7 => ?_
    replace hS := hS.grow hf7
    cases he : evR ⟨kd, nm, tx, es⟩ with
    | false =>
      have hst1 : lkStep k ⟨kd, nm, tx, es⟩ = { k with at_ := k.good, err := 180 } := by simp [lkStep, herr, he]
      have hend := lkI_stop (ms := ms) (i := i + 1) (by rw [hsuc, hst1]; exact (by decide : (180 : Int) ≠ 0))
      rw [hsuc, hst1] at hend
      refine sgo ?_
      refine wlbuild ?_
      refine ssta (vs := [.slice q k.stack.length cc, int k.most, int i, int 180, int i]) hS 3 fun w8 hS => ?_
      refine sgo ?_
      refine fpc (l := [.slice q k.stack.length cc, int k.most, int i, int 180, int i]) (.inl rfl) rfl rfl rfl (hS.own 3 rfl) ⟨q, cc, ?_, hS.frm, ?_⟩
      · rw [hend]; simp only [Lk.cells, hok.2.1]
      · rw [hend]; exact hS0.seq (ds := [_]) (hS.tail.sub (List.Sublist.cons_cons _ (List.nil_sublist _)))
    | true =>
      have hst1 := lk_next (e := ⟨kd, nm, tx, es⟩) herr he
      dsimp only at hst1
      refine sgo ?_
      (show WC _ _ _ _ _ _ _; first | refine WC_dec rfl (fun hc => ?_) (fun hc => ?_) | refine WC_cond rfl (fun hc => ?_) (fun hc => ?_))
      · replace hc : kd = 1 := hc
        subst hc
        rw [if_pos rfl] at hst1
        rw [hst1] at hsuc
        refine sgo ?_
        refine sb1s hS fun b9 w9 hS => ?_
        refine sgo ?_
        refine sapp hS 2 (hS.own 0 rfl).sg fun q' c' w10 hS => ?_
        rw [strs_snoc] at hS
        have hnl : k.stack.length + 1 = (k.stack ++ [nm]).length := by simp
        rw [hnl] at hS ⊢
        refine sgo ?_
        refine sst_slice hS 3 fun w11 hS => ?_
        refine sgo ?_
        refine wlpure (greater_ok _ _ _) fun w12 hf12 => ?_
        replace hS := hS.grow hf12
        have e : max (k.most : Int) ((k.stack ++ [nm]).length : Int) = ((max k.most (k.stack.length + 1) : Nat) : Int) := by rw [← hnl]; omega
        rw [e]
        refine sgo ?_
        refine sst_int hS 3 fun w13 hS => ?_
        refine sgo ?_
        refine ⟨(i + 1, q', c'), ⟨rfl, rfl, rfl, rfl, rfl, rfl, trivial⟩, ⟨hlt, by dsimp only; rw [hsuc], ?_⟩, (by (try dsimp only); omega)⟩
        dsimp only
        rw [hsuc]
        exact hS.tail.tail
      · replace hc : ¬ kd = 1 := hc
        have hk1 := hc
        clear hc
        rw [if_neg hk1] at hst1
        refine sgo ?_
        (show WC _ _ _ _ _ _ _; first | refine WC_dec rfl (fun hc => ?_) (fun hc => ?_) | refine WC_cond rfl (fun hc => ?_) (fun hc => ?_))
        · replace hc : kd = 3 := hc
          subst hc
          rw [if_pos rfl] at hst1
          rw [hst1] at hsuc
          refine sgo ?_
          refine wlpure (greater_ok _ _ _) fun w12 hf12 => ?_
          replace hS := hS.grow hf12
          have e : max (k.most : Int) ((k.stack.length : Int) + 1) = ((max k.most (k.stack.length + 1) : Nat) : Int) := by omega
          rw [e]
          refine sgo ?_
          refine sst_int hS 2 fun w13 hS => ?_
          refine sgo ?_
          refine ⟨(i + 1, q, cc), ⟨rfl, rfl, rfl, rfl, rfl, rfl, trivial⟩, ⟨hlt, by dsimp only; rw [hsuc], ?_⟩, (by (try dsimp only); omega)⟩
          dsimp only
          rw [hsuc]
          exact hS.tail
        · replace hc : ¬ kd = 3 := hc
          have hk3 := hc
          clear hc
          rw [if_neg hk3] at hst1
          refine sgo ?_
          (show WC _ _ _ _ _ _ _; first | refine WC_dec rfl (fun hc => ?_) (fun hc => ?_) | refine WC_cond rfl (fun hc => ?_) (fun hc => ?_))
          · replace hc : kd = 2 := hc
            subst hc
            rw [if_pos rfl] at hst1
            refine sgo ?_
            by_cases he0 : k.stack = []
            · have hst2 : lkStep k ⟨2, nm, tx, es⟩ = { k with at_ := k.good, err := 181 } := by rw [hst1, if_neg (by rw [he0]; simp)]
              have hend := lkI_stop (ms := ms) (i := i + 1) (by rw [hsuc, hst2]; exact (by decide : (181 : Int) ≠ 0))
              rw [hsuc, hst2] at hend
              have hl0 : k.stack.length = 0 := by rw [he0]; rfl
              refine wcdraw ?_
              refine qgo ?_
              refine qlg (v := .nilIface) ?_ rfl rfl (fun hh => absurd hh (by simp [hl0])) 
              refine qlg (v := str []) ?_ rfl rfl (fun hh => absurd hh (by simp [hl0])) 
              refine qgo ?_
              refine QL_nil ?_
              intro w8 hf8
              replace hS := hS.grow hf8
              refine sgo ?_
              refine wcyes ?_ (ht := by simp [pkb_or, hl0])
              refine sgo ?_
              refine wlbuild ?_
              refine ssta (vs := [.slice q k.stack.length cc, int k.most, int i, int 181, int i]) hS 3 fun w8 hS => ?_
              refine sgo ?_
              refine fpc (l := [.slice q k.stack.length cc, int k.most, int i, int 181, int i]) (.inl rfl) rfl rfl rfl (hS.own 3 rfl) ⟨q, cc, ?_, hS.frm, ?_⟩
              · rw [hend]; simp only [Lk.cells, hok.2.1]
              · rw [hend]; exact hS0.seq (ds := [_]) (hS.tail.sub (List.Sublist.cons_cons _ (List.nil_sublist _)))
            · have hpos : 0 < k.stack.length := List.length_pos_iff.2 he0
              have hq : ∃ a, q = some a := (hS.row 1 rfl).sg.some (by rw [strs_len]; exact hpos)
              have hle := (hS.row 1 rfl).le_cap
              have hg : (strs k.stack)[((k.stack.length : Int) - 1).toNat]? = some (str (k.stack.getLast?.getD [])) := by
                rw [show ((k.stack.length : Int) - 1).toNat = k.stack.length - 1 by omega, strs, List.getElem?_map, List.getLast?_eq_getElem?, List.getElem?_eq_getElem (by omega)]
                rfl
              refine wcdraw ?_
              refine qgo ?_
              refine QL_nil ?_
              intro w8 hf8
              replace hS := hS.grow hf8
              have hB2 : pkb (decide ((k.stack.length : Int) - 1 < 0)) true (decide (k.stack.getLast?.getD [] ≠ nm)) = !decide (k.stack.getLast? = some nm) := by
                have h1 : decide ((k.stack.length : Int) - 1 < 0) = false := decide_eq_false (by omega)
                rw [h1]
                cases hl : k.stack.getLast? with
                | none => exact absurd (List.getLast?_eq_none_iff.1 hl) he0
                | some z => simp [pkb]
              refine sgo ?_
              by_cases hl : k.stack.getLast? = some nm
              · rw [if_pos hl] at hst1
                rw [hst1] at hsuc
                refine wcno ?_ (ht := by rw [hB2]; simp [hl])
                clear hB2 hg
                refine sgo ?_
                refine sb0 hS fun b9 w9 hS => ?_
                refine sgo ?_
                have hdl : ((k.stack.length : Int) - 1).toNat = k.stack.dropLast.length := by simp
                have hrt := (hS.row 2 rfl).take (j := k.stack.dropLast.length) (by simp)
                rw [Nat.mul_one, show (strs k.stack).take k.stack.dropLast.length = strs k.stack.dropLast from by rw [strs, strs, ← List.map_take, List.length_dropLast, List.dropLast_eq_take]] at hrt
                rw [hdl]
                refine sapp hS 0 hrt.sg (fun q' c' w10 hS => ?_) (h1 := strs_one _) (hl := by rw [strs_len, Nat.mul_one]) (hb := by simp; omega)
                rw [List.nil_append, Nat.zero_add] at hS
                rw [Nat.zero_add]
                refine sgo ?_
                refine sst_slice hS 3 fun w11 hS => ?_
                refine sgo ?_
                refine ⟨(i + 1, q', c'), ⟨rfl, rfl, rfl, rfl, rfl, rfl, trivial⟩, ⟨hlt, by dsimp only; rw [hsuc], ?_⟩, (by (try dsimp only); omega)⟩
                dsimp only
                rw [hsuc]
                have h2 := hS.drop 1 rfl
                have h3 := h2.drop 1 rfl
                simp only [Nat.zero_add] at h3
                exact h3
              · rw [if_neg hl] at hst1
                have hend := lkI_stop (ms := ms) (i := i + 1) (by rw [hsuc, hst1]; exact (by decide : (181 : Int) ≠ 0))
                rw [hsuc, hst1] at hend
                refine wcyes ?_ (ht := by rw [hB2]; simp [hl])
                refine sgo ?_
                refine wlbuild ?_
                refine ssta (vs := [.slice q k.stack.length cc, int k.most, int i, int 181, int i]) hS 3 fun w8 hS => ?_
                refine sgo ?_
                refine fpc (l := [.slice q k.stack.length cc, int k.most, int i, int 181, int i]) (.inl rfl) rfl rfl rfl (hS.own 3 rfl) ⟨q, cc, ?_, hS.frm, ?_⟩
                · rw [hend]; simp only [Lk.cells, hok.2.1]
                · rw [hend]; exact hS0.seq (ds := [_]) (hS.tail.sub (List.Sublist.cons_cons _ (List.nil_sublist _)))
          · replace hc : ¬ kd = 2 := hc
            rw [if_neg hc] at hst1
            rw [hst1] at hsuc
            refine sgo ?_
            refine ⟨(i + 1, q, cc), ⟨rfl, rfl, rfl, rfl, rfl, rfl, trivial⟩, ⟨hlt, by dsimp only; rw [hsuc], ?_⟩, (by (try dsimp only); omega)⟩
            dsimp only
            rw [hsuc]
            exact hS.tail
  · obtain rfl : i = ms.length := by omega
    rw [lkI_all] at *
    clear hc
    refine sgo ?_
    refine sst_int hS 1 fun w8 hS => ?_
    refine sgo ?_
    refine ssta (vs := [.slice q (lkR (evs ms)).stack.length cc, int (lkR (evs ms)).most, int 0, int 0, int ms.length]) hS 2 fun w9 hS => ?_
    refine sgo ?_
    refine fpc (l := [.slice q (lkR (evs ms)).stack.length cc, int (lkR (evs ms)).most, int 0, int 0, int ms.length]) (.inl rfl) rfl rfl rfl (hS.own 2 rfl) ⟨q, cc, ?_, hS.frm, ?_⟩
    · simp only [Lk.cells, hok.2.1, hok.1, herr]; rfl
    · exact hS0.seq (ds := [_]) (hS.sub (List.Sublist.cons_cons _ (List.nil_sublist _)))
end Go.Proofs.YthgbpgjpnaanlaaDoor

/-
  sievelaw18: EventNests.
-/
set_option linter.unusedSimpArgs false
set_option linter.unusedVariables false
set_option linter.unnecessarySimpa false
namespace Go.Sv
open Go Go.RowKit
/-- a guarded call, whose guard is known to say yes -/
theorem wlcallgt {P : Program} {n : Nat} {ds : Ctx} {ops : Array Oper} {Q : Exit → Ctx → Env → World → Prop} {rest : List Oper} {σ : GE} {w : World} {d : Nat} {ty : TypeId} {pos : String} {af : Array Edge} {j dj : Nat} {want b c : Bool} {f : FuncId} [hf : Fnc P f] {args : List Operand} {ats : Array TypeId} {vals : List Value} {R : Value → World → Prop}
    (hc : CallsR P f vals.toArray w R) (h : ∀ v w', R v w' → WL P n ds ops Q rest (real (updG σ d ⟨v, true⟩)) w') (hgt : (b && (c == want)) = true)
    (hj : (ops[j]?).bind (·.dst) = some dj := by rfl) (hσ : σ dj = ⟨.bool c, b⟩ := by rfl)
    (ha : (b && (c == want)) = true → args.map (evl (real σ)) = vals := by
    intro hgd
    first
    | exact Go.Sv.am1 (evG hgd)
    | exact Go.Sv.am2 (evG hgd) (evG hgd)
    | exact Go.Sv.am3 (evG hgd) (evG hgd) (evG hgd)) :
    WL P n ds ops Q (⟨some d, .call ⟨.value (.func f), args.toArray, ats⟩, ty, pos, af, some (j, want)⟩ :: rest) (real σ) w := by
  have hw := wanted_real (ops := ops) (o := ⟨some d, .call ⟨.value (.func f), args.toArray, ats⟩, ty, pos, af, some (j, want)⟩) rfl hj hσ
  rw [hgt] at hw
  refine WL_call_want (R := R) hw (by rw [← ha hgt] at hc; simpa using hc) fun v w' hr => ?_
  have := h v w' hr
  rw [← real_upd] at this
  exact this
end Go.Sv
namespace Go.Proofs.YthgbpgjpnaanlaaDoor
open Go Go.Sv Go.RowKit

theorem closeM_evs (l : List (List UInt8)) : evs (l.map closeM) = l.map closeE := by simp [evs, closeM, Function.comp_def]
theorem closeM_small {l : List (List UInt8)} (h : ∀ n ∈ l, n.length ≤ 1048576) : ∀ m ∈ l.map closeM, m.e.small := by
  intro m hm
  obtain ⟨n, hn, rfl⟩ := List.mem_map.1 hm
  exact ⟨h n hn, by simp [closeM, closeE], by simp [closeM, closeE], by simp [closeM, closeE]⟩
theorem closeM_Evs {w : World} {p : Option Addr} {l : List (List UInt8)} (h : Im [] w p ((l.map closeM).flatMap EvM.cells)) : Evs w p (l.map closeM) := ⟨h, fun m hm => by
  obtain ⟨n, hn, rfl⟩ := List.mem_map.1 hm
  exact Im.nil _ _ _⟩
theorem stack_small (l : List Ev) (h : ∀ e ∈ l, e.name.length ≤ 1048576) : ∀ n ∈ (lkR l).stack, n.length ≤ 1048576 := by
  have key : ∀ (l : List Ev) (k : Lk), (∀ e ∈ l, e.name.length ≤ 1048576) → (∀ n ∈ k.stack, n.length ≤ 1048576) → ∀ n ∈ (l.foldl lkStep k).stack, n.length ≤ 1048576 := by
    intro l
    induction l with
    | nil => intro k _ h; exact h
    | cons e l ih =>
      intro k h1 h2
      rw [List.foldl_cons]
      refine ih _ (fun x hx => h1 x (List.mem_cons_of_mem _ hx)) ?_
      have he := h1 e List.mem_cons_self
      unfold lkStep
      split
      · split
        · split
          · intro n hn
            rcases List.mem_append.1 hn with hn | hn
            · exact h2 n hn
            · rw [List.mem_singleton.1 hn]; exact he
          · split
            · exact h2
            · split
              · split
                · exact fun n hn => h2 n (List.dropLast_subset _ hn)
                · exact h2
              · exact h2
        · exact h2
      · exact h2
  exact key l lk0 h (by simp [lk0])
def depthS (k : Lk) : Nat := if k.err = 0 then k.most else 0
theorem depth_ok2 (ms : List EvM) (p : Option Addr) (c : Nat) (hn : ms.length ≤ 1048576) (hs : ∀ m ∈ ms, m.e.small) (w : World) (hA : Asc w) (hE : Evs w p ms) :
    PureC Tryd.prog 17 #[.slice p ms.length c] w (.tuple #[int (depthS (lkR (evs ms))), int (lkR (evs ms)).err]) := by
  have h := depth_ok ms p c hn hs w hA hE
  unfold depthS
  by_cases he : (lkR (evs ms)).err = 0
  · rw [if_pos he] at h ⊢
    rw [he]; exact h
  · rw [if_neg he] at h ⊢
    exact h
set_option maxHeartbeats 4000000 in
theorem eventNests_ok (ms : List EvM) (p : Option Addr) (c : Nat) (hw : evw ms ≤ 1048576) (w : World) (hA : Asc w) (hE : Evs w p ms) :
    PureC Tryd.prog 4 #[.slice p ms.length c] w (.bool true) := by
  have hn : ms.length ≤ 1048576 := by
    have := sum_len (fun m : EvM => m.e.wt) ms (by intro m _; show 1 ≤ Ev.wt m.e; unfold Ev.wt; omega)
    unfold evw at hw; omega
  have hs : ∀ m ∈ ms, m.e.small := fun m hm => Ev.small_of (Nat.le_trans (sum_mem (fun m : EvM => m.e.wt) ms hm) hw)
  have hS := Sep.start w
  have hss : ∀ n ∈ (lkR (evs ms)).stack, n.length ≤ 1048576 := stack_small _ (by
    intro e he
    obtain ⟨m, hm, rfl⟩ := List.mem_map.1 he
    exact (hs m hm).name)
  refine enter (l := [.slice p ms.length c]) Tryd.func4 rfl Tryd.ntmps4 (by kernel_rfl) rfl ?_
  refine sgo ?_
  refine wlcall (evOwn_ok ms p c hn hs w w [] hS hE) ?_
  rintro _ w1 ⟨q, cc, ns, rfl, hev, -, hS⟩
  have hnl : ns.length = ms.length := by rw [← evs_len, hev, evs_len]
  have hns : ∀ m ∈ ns, m.e.small := fun m hm => by
    have : m.e ∈ evs ms := by rw [← hev]; exact List.mem_map_of_mem hm
    obtain ⟨m', hm', e⟩ := List.mem_map.1 this
    rw [← e]; exact hs m' hm'
  have hb := lk_bound (evs ms)
  have hol := openS_len ns
  rw [evs_len] at hb
  rw [← hev] at hb hss
  refine sgo ?_
  refine wlpure (nested_ok ns q cc (by omega) hns w1 (hA.frm hS.frm) (Sep.evs hS 0 1 rfl rfl)) fun w2 hf2 => ?_
  replace hS := hS.grow hf2
  refine sgo ?_
  refine wlcall (open_ok2 ns q cc (by omega) hns w w2 _ hS (hA.frm hS.frm) (Sep.evs hS 0 1 rfl rfl)) ?_
  rintro _ w3 ⟨q1, c1, rfl, -, hS⟩
  refine sgo ?_
  refine wlcall (open_ok2 ns q cc (by omega) hns w w3 _ hS (hA.frm hS.frm) (Sep.evs hS 1 2 rfl rfl)) ?_
  rintro _ w4 ⟨q2, c2, rfl, -, hS⟩
  refine sgo ?_
  refine wlpure (depth_ok2 ns q cc (by omega) hns w4 (hA.frm hS.frm) (Sep.evs hS 2 3 rfl rfl)) fun w5 hf5 => ?_
  replace hS := hS.grow hf5
  refine sgo ?_
  refine wlcall (close_ok ns q cc (by omega) hns w w5 _ hS (hA.frm hS.frm) (Sep.evs hS 2 3 rfl rfl)) ?_
  rintro _ w6 ⟨q3, c3, rfl, -, hS⟩
  refine sgo ?_
  refine wlcall (at_ok ms p c hn hs w w6 _ hS (hE.frm hS.frm)) ?_
  rintro _ w7 ⟨q4, c4, rfl, -, hS⟩
  rw [← hev] at hS ⊢
  have hEn := Sep.evs hS 4 5 rfl rfl
  have hC := hS.im 1 rfl
  have hO1 := hS.im 3 rfl
  have hO2 := hS.im 2 rfl
  have hK := hS.im 0 rfl
  clear hC hO1 hO2 hK hEn
  generalize hk : lkR (evs ns) = k at *
  refine sgo ?_
  refine salloc hS fun b14 w8 hS => ?_
  refine sgo ?_
  refine ssta (vs := [.slice q4 k.stack.length c4, int k.most, int k.at_, int k.err, int k.good]) hS 0 fun w9 hS => ?_
  replace hS : Sep w w9 [pOwn b14 [.slice q4 k.stack.length c4, int k.most, int k.at_, int k.err, int k.good], pRow 1 q4 k.stack.length c4 (strs k.stack), pRow 4 q3 (openS k).length c3 (((openS k).reverse.map closeM).flatMap EvM.cells),
    pRow 1 q2 (openS k).length c2 (strs (openS k)), pRow 1 q1 (openS k).length c1 (strs (openS k)), pRow 4 q ns.length cc (ns.flatMap EvM.cells), pMany (ns.map EvM.row)] := hS
  refine sgo ?_
  refine wcdraw ?_
  refine qgo ?_
  refine qlcallgp (vals := [int k.err]) (v := int k.err) (fun hg w' hw' => num18_ok _ w') ?_
  refine qgo ?_
  refine qlcallgp (vals := [int k.err]) (v := int k.err) (fun hg w' hw' => num18_ok _ w') ?_
  refine qgo ?_
  refine qlcallgp (vals := [int k.err]) (v := int k.err) (fun hg w' hw' => num18_ok _ w') ?_
  refine qgo ?_
  refine qlcallgp (vals := [int k.err]) (v := int k.err) (fun hg w' hw' => num18_ok _ w') ?_
  refine qgo ?_
  refine qlcallgp (vals := [.slice q ns.length cc, .slice p ms.length c]) (v := .bool (decide (evs ns = evs ms))) (fun hg w' hw' => evEqual_ok ns ms q p cc c (by omega) (by omega) hns hs w' (Sep.evs (hS.grow hw') 5 6 rfl rfl) (hE.frm (hS.grow hw').frm)) ?_
  refine qgo ?_
  refine QL_nil ?_
  intro w10 hf10
  replace hS := hS.grow hf10
  rw [decide_eq_true hev]
  refine sgo ?_
  refine wcno ?_ (ht := by simp [pkb_or])
  refine sgo ?_
  by_cases he : k.err = 0
  · refine wcno ?_ (ht := by simpa using he)
    have ho : openS k = k.stack := if_pos he
    have hd : depthS k = k.most := if_pos he
    rw [ho] at hS ⊢
    rw [hd]
    refine sgo ?_
    refine wlpure (sameNames_ok k.stack k.stack q1 q4 c1 c4 (by omega) (by omega) w10 (hS.im 4 rfl) (hS.im 1 rfl)) fun w11 hf11 => ?_
    replace hS := hS.grow hf11
    rw [decide_eq_true rfl]
    refine sgo ?_
    refine wlcallgt (vals := [.slice q4 k.stack.length c4]) (ends_ok k.stack q4 c4 (by omega) w w11 _ hS (hS.im 1 rfl)) (fun v5 w12 hR => ?_) ?_
    rotate_left
    · simp [pkb]
    obtain ⟨q5, c5, rfl, -, hS⟩ := hR
    have hEq := fun w' h1 h2 => evEqual_ok (k.stack.reverse.map closeM) (k.stack.reverse.map closeM) q3 q5 c3 c5 (by simp; omega) (by simp; omega) (closeM_small fun n hn => hss n (List.mem_reverse.1 hn)) (closeM_small fun n hn => hss n (List.mem_reverse.1 hn)) w' (closeM_Evs h1) (closeM_Evs h2)
    simp only [List.length_map, List.length_reverse] at hEq
    refine sgo ?_
    refine wlcallgp (vals := [.slice q3 k.stack.length c3, .slice q5 k.stack.length c5]) (fun _ => hEq w12 (hS.im 3 rfl) (hS.im 0 rfl)) fun w13 hf13 => ?_
    replace hS := hS.grow hf13
    refine sgo ?_
    refine wcno ?_ (ht := by simp [pkb])
    refine sgo ?_
    refine wcloop (X := Nat × List Value) (fun x => [(3, .slice q ns.length cc), (6, .slice q1 k.stack.length c1), (8, .slice q2 k.stack.length c2), (14, ptrAt (pb b14) 0), (121, int k.stack.length), (122, int x.1)])
      (fun x wr => x.1 ≤ k.stack.length ∧ x.2.length = k.stack.length ∧ Sep w wr [pRow 1 q1 k.stack.length c1 x.2, pOwn b14 [.slice q4 k.stack.length c4, int k.most, int k.at_, int k.err, int k.good], pRow 1 q4 k.stack.length c4 (strs k.stack), pRow 1 q2 k.stack.length c2 (strs k.stack)])
      (fun x => k.stack.length - x.1) (0, strs k.stack) ⟨rfl, rfl, rfl, rfl, rfl, rfl, trivial⟩ ⟨Nat.zero_le _, strs_len _, ?_⟩ ?_
    · have h1 := hS.front 5 rfl
      have h2 := (((h1.drop 7 rfl).drop 6 rfl).drop 4 rfl).drop 1 rfl
      exact h2
    clear hS
    rintro ⟨i, xs⟩ wr ρ ⟨hil, hxl, hS⟩
    dsimp only at *
    refine sgo ?_
    (show WC _ _ _ _ _ _ _; first | refine WC_dec rfl (fun hc => ?_) (fun hc => ?_) | refine WC_cond rfl (fun hc => ?_) (fun hc => ?_))
    · have hlt : i < k.stack.length := by omega
      have hp : ∃ a, q1 = some a := (hS.row 0 rfl).sg.some (by omega)
      clear hc
      refine sgo ?_
      refine srst (v := str [115, 112, 111, 105, 108, 116]) hS 0 (fun w14 hS => ?_) (hk := by omega)
      refine sgo ?_
      refine ⟨(i + 1, _), ⟨rfl, rfl, rfl, rfl, rfl, rfl, trivial⟩, ⟨hlt, ?_, hS⟩, (by (try dsimp only); omega)⟩
      have := (hS.row 0 rfl).len
      rw [Nat.mul_one] at this
      exact this
    · clear hc
      refine sgo ?_
      refine wlpure (sameNames_ok k.stack k.stack q2 q4 c2 c4 (by omega) (by omega) wr (hS.im 3 rfl) (hS.im 2 rfl)) fun w14 hf14 => ?_
      replace hS := hS.grow hf14
      rw [decide_eq_true rfl]
      refine sgo ?_
      refine wlcallgp (vals := []) (fun _ => awake18_ok _ (hA.frm hS.frm)) (fun w15 hf15 => ?_) (ha := fun _ => rfl)
      replace hS := hS.grow hf15
      refine sgo ?_
      (first | refine fp1 (.inl rfl) rfl rfl ?_ | refine fp2 (.inl rfl) rfl rfl rfl ?_ | refine fp3 (.inl rfl) rfl rfl rfl rfl ?_ | refine fp0 (.inr rfl) rfl ?_ | refine fp0 (.inl rfl) rfl ?_ | refine fp1 (.inr rfl) rfl rfl ?_); refine ⟨?_, by (first | exact Frm.refl _ | assumption | exact Go.Sv.Sep.frm (by assumption) | (refine Frm.trans ?_ (by assumption); first | exact Frm.refl _ | assumption))⟩; (try simp only [realB, rv_true, Nat.reduceBEq, cond_true, cond_false, entG, real_lif, updGL])
      simp [pkb]
  · refine wcyes ?_ (ht := by simpa using he)
    rw [show openS k = [] from if_neg he, show depthS k = 0 from if_neg he]
    refine sgo ?_
    refine wlcallgp (vals := []) (fun _ => awake18_ok _ (hA.frm hS.frm)) (fun w11 hf11 => ?_) (ha := fun _ => rfl)
    replace hS := hS.grow hf11
    refine sgo ?_
    (first | refine fp1 (.inl rfl) rfl rfl ?_ | refine fp2 (.inl rfl) rfl rfl rfl ?_ | refine fp3 (.inl rfl) rfl rfl rfl rfl ?_ | refine fp0 (.inr rfl) rfl ?_ | refine fp0 (.inl rfl) rfl ?_ | refine fp1 (.inr rfl) rfl rfl ?_); refine ⟨?_, by (first | exact Frm.refl _ | assumption | exact Go.Sv.Sep.frm (by assumption) | (refine Frm.trans ?_ (by assumption); first | exact Frm.refl _ | assumption))⟩; (try simp only [realB, rv_true, Nat.reduceBEq, cond_true, cond_false, entG, real_lif, updGL])
    simp [pkb]
end Go.Proofs.YthgbpgjpnaanlaaDoor

/-
  Package event: copied, Wrap; sievelaw18: spoil.
-/
set_option linter.unusedSimpArgs false
set_option linter.unusedVariables false
set_option linter.unnecessarySimpa false
namespace Go.Sv
open Go Go.RowKit
theorem y_slnil {P : Program} {σ : Env} {w : World} {d : Option Tmp} {ty t t' e : TypeId} {pos : String} {af : Array Edge} {g : Option (Nat × Bool)} {x y : Operand} {p : Option Addr} {n c : Nat} [hu : Und P t (.slice e)] (hx : evl σ x = .slice p n c) (hy : evl σ y = .slice none 0 0) : Y P σ ⟨d, .binOp .eql t x y t', ty, pos, af, g⟩ w (.bool p.isNone) w := by
  refine Y.val ?_
  have h : ∀ k : Nat, (Op.equalIn (k + 1) t (.slice p n c) (.slice none 0 0)).run P w = .ok p.isNone w := fun k => by
    cases p <;> simp [Op.equalIn, run_underlying hu.ok]
  simp only [execOp, hx, hy]
  simp [eqGuard, binOp, Op.equal, Op.maxDepth, h 9999]
end Go.Sv
namespace Go.Proofs.YthgbpgjpnaanlaaDoor
open Go Go.Sv Go.RowKit

set_option maxHeartbeats 1000000 in
theorem cloneAt_ok (es : List At) (p : Option Addr) (c : Nat) (hn : es.length ≤ 1048576) (w0 w : World) (cs : List Plot) (hS : Sep w0 w cs) (hi : Im [] w p (es.flatMap At.cells)) :
    CallsR Tryd.prog 55 #[.slice p es.length c] w fun v w' => ∃ q cc, v = .slice q es.length cc ∧ Frm w w' ∧ Sep w0 w' (pRow 2 q es.length cc (es.flatMap At.cells) :: cs) := by
  have hS0 := hS
  replace hS := Sep.start w
  have hl1 := fm_len At.len es
  refine enter (l := [.slice p es.length c]) Tryd.func55 rfl Tryd.ntmps55 (by kernel_rfl) rfl ?_
  refine sgo ?_
  refine wl ?_ (y_slnil rfl rfl)
  cases p with
  | none =>
    have he : es = [] := by
      rcases hi with h | ⟨a, h, _⟩
      · exact List.length_eq_zero_iff.1 (by rw [h] at hl1; simp at hl1; omega)
      · cases h
    subst he
    refine sgo ?_
    (first | refine fp1 (.inl rfl) rfl rfl ?_ | refine fp2 (.inl rfl) rfl rfl rfl ?_ | refine fp3 (.inl rfl) rfl rfl rfl rfl ?_ | refine fp0 (.inr rfl) rfl ?_ | refine fp0 (.inl rfl) rfl ?_ | refine fp1 (.inr rfl) rfl rfl ?_)
    exact ⟨none, 0, rfl, Frm.refl w, hS0.push (Frm.refl w) (Row.nil w 2) (by simp [pRow, rb])⟩
  | some a =>
    rw [show (some a).isNone = false from rfl]
    refine sgo ?_
    refine sb0 hS fun b5 w5 hS => ?_
    refine sgo ?_
    refine sapp hS 0 (hi.sep hS).sg (fun q2 c2 w6 hS => ?_) (hl := by omega) (h1 := att_one es)
    rw [List.nil_append, show 0 + es.length = es.length from Nat.zero_add _] at hS
    rw [show 0 + es.length = es.length from Nat.zero_add _]
    refine sgo ?_
    (first | refine fp1 (.inl rfl) rfl rfl ?_ | refine fp2 (.inl rfl) rfl rfl rfl ?_ | refine fp3 (.inl rfl) rfl rfl rfl rfl ?_ | refine fp0 (.inr rfl) rfl ?_ | refine fp0 (.inl rfl) rfl ?_ | refine fp1 (.inr rfl) rfl rfl ?_)
    exact ⟨q2, c2, rfl, hS.frm, hS0.seq hS⟩
set_option maxHeartbeats 1000000 in
theorem evCopied_ok (e : Ev) (p : Option Addr) (c : Nat) (hs : e.small) (w0 w : World) (cs : List Plot) (hS : Sep w0 w cs) (hi : Im [] w p (e.attrs.flatMap At.cells)) :
    CallsR Tryd.prog 48 #[.agg ⟨e.cells p c⟩] w fun v w' => ∃ q cc, v = .agg ⟨e.cells q cc⟩ ∧ Frm w w' ∧ Sep w0 w' (pRow 2 q e.attrs.length cc (e.attrs.flatMap At.cells) :: cs) := by
  have hS0 := hS
  replace hS := Sep.start w
  obtain ⟨k, nm, tx, es⟩ := e
  have hes := hs.attrs
  dsimp only at hi hes
  refine enter (l := [.agg ⟨Ev.cells ⟨k, nm, tx, es⟩ p c⟩]) Tryd.func48 rfl Tryd.ntmps48 (by kernel_rfl) rfl ?_
  refine WC_seq ?_
  refine WC_region ?_
  refine sbox (v := .agg ⟨Ev.cells ⟨k, nm, tx, es⟩ p c⟩) hS fun b1 w1 hS => ?_
  replace hS : Sep w w1 [pOwn b1 [int k, str nm, str tx, .slice p es.length c]] := hS
  refine sgo ?_
  refine salloc hS fun b2 w2 hS => ?_
  refine sgo ?_
  refine wlcall (cloneAt_ok es p c hes w w2 _ hS (hi.sep hS)) ?_
  rintro _ w3 ⟨q, cc, rfl, -, hS⟩
  refine sgo ?_
  refine sst_slice hS 2 fun w4 hS => ?_
  refine sgo ?_
  refine ssta (vs := Ev.cells ⟨k, nm, tx, es⟩ q cc) hS 1 fun w5 hS => ?_
  refine sgo ?_
  refine fpc (.inl rfl) rfl rfl rfl (hS.own 1 rfl) ⟨q, cc, rfl, hS.frm, hS0.seq (ds := [_]) (hS.sub (List.Sublist.cons_cons _ (List.nil_sublist _)))⟩

def spM : EvM := ⟨⟨9, [115, 112, 111, 105, 108, 116], [], []⟩, none, 0⟩
set_option maxHeartbeats 2000000 in
theorem evSpoil_ok (ns : List EvM) (q : Option Addr) (cc : Nat) (h1 : ns.length ≤ 1048578) (hs : ∀ m ∈ ns, m.e.small) (w0 w : World) (cs : List Plot) (hS : Sep w0 w (pRow 4 q ns.length cc (ns.flatMap EvM.cells) :: pMany (ns.map EvM.row) :: cs)) :
    CallsR Tryd.prog 24 #[.slice q ns.length cc] w fun _ w' => Sep w0 w' cs := by
  refine enter (l := [.slice q ns.length cc]) Tryd.func24 rfl Tryd.ntmps24 (by kernel_rfl) rfl ?_
  refine sgo ?_
  refine wcloop (X := Nat × List RowD) (fun x => [(0, .slice q ns.length cc), (5, int ns.length), (6, int x.1)])
    (fun x wr => x.1 ≤ ns.length ∧ (x.2.length = ns.length ∧ ∀ (j : Nat) (m : EvM) (r : RowD), ns[j]? = some m → x.2[j]? = some r → r.p = m.p ∧ r.size = 2 ∧ r.n = m.e.attrs.length) ∧ Sep w0 wr (pRow 4 q ns.length cc (((ns.take x.1).map (fun _ => spM) ++ ns.drop x.1).flatMap EvM.cells) :: pMany x.2 :: cs))
    (fun x => ns.length - x.1) (0, ns.map EvM.row) ⟨rfl, rfl, rfl, trivial⟩ ⟨Nat.zero_le _, ⟨by simp, ?_⟩, by simpa using hS⟩ ?_
  · intro j m r hm hr
    simp only [List.getElem?_map, hm, Option.map_some, Option.some.injEq] at hr
    subst hr
    exact ⟨rfl, rfl, rfl⟩
  clear hS
  rintro ⟨i, rs⟩ wr ρ ⟨hil, ⟨hrl, hrs⟩, hS⟩
  dsimp only at *
  refine sgo ?_
  (show WC _ _ _ _ _ _ _; first | refine WC_dec rfl (fun hc => ?_) (fun hc => ?_) | refine WC_cond rfl (fun hc => ?_) (fun hc => ?_))
  · have hlt : i < ns.length := by omega
    have hx : ns[i]? = some ns[i] := List.getElem?_eq_getElem hlt
    have hsm := hs _ (List.getElem_mem hlt)
    have hxi : ((ns.take i).map (fun _ => spM) ++ ns.drop i)[i]? = some ns[i] := by rw [List.getElem?_append_right (by simp; omega)]; simp [hlt, Nat.min_eq_left (Nat.le_of_lt hlt)]
    have hset : ((ns.take i).map (fun _ => spM) ++ ns.drop i).set i spM = (ns.take (i + 1)).map (fun _ => spM) ++ ns.drop (i + 1) := by
      rw [List.set_append_right _ _ (by simp; omega), List.take_add_one, hx, List.map_append]
      simp only [List.length_map, List.length_take, Nat.min_eq_left (Nat.le_of_lt hlt), Nat.sub_self, Option.toList, List.map_cons, List.map_nil, List.append_assoc, List.cons_append, List.nil_append]
      rw [List.drop_eq_getElem_cons hlt]
      rfl
    have hg3 := fm_get EvM.len ((ns.take i).map (fun _ => spM) ++ ns.drop i) i 3 (by omega)
    rw [hxi] at hg3
    replace hg3 : (((ns.take i).map (fun _ => spM) ++ ns.drop i).flatMap EvM.cells)[i * 4 + 3]? = some (.slice ns[i].p ns[i].e.attrs.length ns[i].c) := hg3
    have hup := flat_upd_all (f := EvM.cells) (k := 4) EvM.len ((ns.take i).map (fun _ => spM) ++ ns.drop i) i ns[i] spM hxi
    rw [hset] at hup
    have hfl := fm_len EvM.len ((ns.take i).map (fun _ => spM) ++ ns.drop i)
    have hml : ((ns.take i).map (fun _ => spM) ++ ns.drop i).length = ns.length := by simp; omega
    rw [hml] at hfl
    have hps : ∃ a, q = some a := (hS.row 0 rfl).sg.some (by rw [hfl]; omega)
    have hri : rs[i]? = some rs[i] := List.getElem?_eq_getElem (by omega)
    obtain ⟨e1, e2, e3⟩ := hrs i _ _ hx hri
    have hes := hsm.attrs
    generalize ns[i] = m at *
    generalize ((ns.take i).map (fun _ => spM) ++ ns.drop i).flatMap EvM.cells = F at *
    generalize hr0 : rs[i] = r0 at *
    clear hc hxi hr0
    obtain ⟨rz, rp, rn, rc, rx⟩ := r0
    dsimp only at e1 e2 e3
    subst e1 e2 e3
    refine sgo ?_
    refine wcloop (X := Nat × List Value) (fun x => [(0, .slice q ns.length cc), (2, int i), (5, int ns.length), (6, int i), (14, int m.e.attrs.length), (15, int x.1)])
      (fun x wr => x.1 ≤ m.e.attrs.length ∧ Sep w0 wr (pRow 4 q ns.length cc F :: pMany (rs.set i ⟨2, m.p, m.e.attrs.length, rc, x.2⟩) :: cs)) (fun x => m.e.attrs.length - x.1) (0, rx) ⟨rfl, rfl, rfl, rfl, rfl, rfl, trivial⟩ ⟨Nat.zero_le _, ?_⟩ ?_
    · have e : rs.set i ⟨2, m.p, m.e.attrs.length, rc, rx⟩ = rs := by
        obtain ⟨h, hh⟩ := List.getElem?_eq_some_iff.1 hri
        rw [← hh, List.set_getElem_self]
      dsimp only
      rw [e]; exact hS
    clear hS
    rintro ⟨k, ys⟩ wr2 ρ2 ⟨hk, hS⟩
    dsimp only at *
    refine sgo ?_
    (show WC _ _ _ _ _ _ _; first | refine WC_dec rfl (fun hc => ?_) (fun hc => ?_) | refine WC_cond rfl (fun hc => ?_) (fun hc => ?_))
    · have hkl : k < m.e.attrs.length := by omega
      clear hc
      have hj : (rs.set i ⟨2, m.p, m.e.attrs.length, rc, ys⟩)[i]? = some ⟨2, m.p, m.e.attrs.length, rc, ys⟩ := by rw [List.getElem?_set_self (by omega)]
      have hrow := hS.many 1 rfl _ (List.mem_of_getElem? hj)
      have hrl2 : ys.length = m.e.attrs.length * 2 := Row.len hrow
      have hmp : ∃ a, m.p = some a := (Row.sg hrow).some (by dsimp only; omega)
      refine sgo ?_
      refine wlbuild ?_
      refine sgo ?_
      refine smst (v := .agg ⟨[str [115, 112, 111, 105, 108, 116], str []]⟩) (k := k * 2) hS 1 hj (fun w3 hS => ?_) (hk := by dsimp only; omega)
      refine sgo ?_
      refine ⟨(k + 1, ys.take (k * 2) ++ [str [115, 112, 111, 105, 108, 116], str []] ++ ys.drop (k * 2 + 2)), ⟨rfl, rfl, rfl, rfl, rfl, rfl, trivial⟩, ⟨hkl, ?_⟩, (by (try dsimp only); omega)⟩
      have hS2 := hS
      simp only [List.set_set, List.set_cons_succ, List.set_cons_zero] at hS2
      exact hS2
    · clear hc
      refine sgo ?_
      refine wlbuild ?_
      refine sgo ?_
      refine srst (v := .agg ⟨spM.cells⟩) (j := i * 4) hS 0 (fun w3 hS => ?_) (hk := by omega)
      refine sgo ?_
      refine ⟨(i + 1, rs.set i ⟨2, m.p, m.e.attrs.length, rc, ys⟩), ⟨rfl, rfl, rfl, trivial⟩, ⟨hlt, ⟨by simp [hrl], ?_⟩, ?_⟩, (by (try dsimp only); omega)⟩
      · intro j m' r' hm' hr'
        by_cases hji : j = i
        · subst hji
          rw [List.getElem?_set_self (by omega)] at hr'
          injection hr' with hr'
          rw [hx] at hm'
          injection hm' with hm'
          subst hr' hm'
          exact ⟨rfl, rfl, rfl⟩
        · rw [List.getElem?_set_ne (fun h => hji h.symm)] at hr'
          exact hrs j m' r' hm' hr'
      · rw [← hup]; exact hS
  · refine sgo ?_
    (first | refine fp1 (.inl rfl) rfl rfl ?_ | refine fp2 (.inl rfl) rfl rfl rfl ?_ | refine fp3 (.inl rfl) rfl rfl rfl rfl ?_ | refine fp0 (.inr rfl) rfl ?_ | refine fp0 (.inl rfl) rfl ?_ | refine fp1 (.inr rfl) rfl rfl ?_)
    exact hS.tail.tail
end Go.Proofs.YthgbpgjpnaanlaaDoor

/-
  Package event: Wrap.
-/
set_option linter.unusedSimpArgs false
set_option linter.unusedVariables false
set_option linter.unnecessarySimpa false
namespace Go.Proofs.YthgbpgjpnaanlaaDoor
open Go Go.Sv Go.RowKit

def firstE (n : List UInt8) (es : List At) : Ev := ⟨1, n, [], es⟩
def wrapC (f : Ev) (k : Lk) : Int := if evR f = false then 180 else if k.err ≠ 0 then k.err else if k.stack = [] then 0 else 181
def wrapE (n : List UInt8) (es : List At) (l : List Ev) : List Ev := if wrapC (firstE n es) (lkR l) = 0 then firstE n es :: l ++ [closeE n] else []
set_option maxHeartbeats 4000000 in
theorem wrap_ok (n : List UInt8) (es : List At) (ms : List EvM) (pa p : Option Addr) (ca c : Nat) (hf : (firstE n es).small) (hn : ms.length ≤ 1048576) (hs : ∀ m ∈ ms, m.e.small) (w0 w : World) (cs : List Plot) (hS0 : Sep w0 w cs) (hA : Asc w) (hi : Im [] w pa (es.flatMap At.cells)) (hE : Evs w p ms) :
    CallsR Tryd.prog 26 #[str n, .slice pa es.length ca, .slice p ms.length c] w fun v w' => ∃ q cc ns, v = .tuple #[.slice q ns.length cc, int (wrapC (firstE n es) (lkR (evs ms)))] ∧ evs ns = wrapE n es (evs ms) ∧ Frm w w' ∧ Sep w0 w' (pRow 4 q ns.length cc (ns.flatMap EvM.cells) :: pMany (ns.map EvM.row) :: cs) := by
  have hS := Sep.start w
  have hes := hf.attrs
  dsimp only [firstE] at hes
  have hnil : ∀ (k : Int), k ≠ 0 → wrapC (firstE n es) (lkR (evs ms)) = k → ∀ w1, Frm w w1 → ∃ q cc ns, (Value.tuple #[.slice none 0 0, int k]) = .tuple #[.slice q (List.length ns) cc, int (wrapC (firstE n es) (lkR (evs ms)))] ∧ evs ns = wrapE n es (evs ms) ∧ Frm w w1 ∧ Sep w0 w1 (pRow 4 q ns.length cc (ns.flatMap EvM.cells) :: pMany (ns.map EvM.row) :: cs) := by
    intro k h0 h1 w1 hf1
    refine ⟨none, 0, [], by rw [h1]; rfl, by rw [wrapE, h1, if_neg h0]; rfl, hf1, ?_⟩
    exact ((hS0.grow hf1).zero).push (Frm.refl w1) (Row.nil w1 4) (by simp [pRow, rb])
  refine enter (l := [str n, .slice pa es.length ca, .slice p ms.length c]) Tryd.func26 rfl Tryd.ntmps26 (by kernel_rfl) rfl ?_
  refine sgo ?_
  refine wlbuild ?_
  refine wlcall (evCopied_ok (firstE n es) pa ca hf w w [] hS hi) ?_
  rintro _ w1 ⟨q1, c1, rfl, -, hS⟩
  refine sgo ?_
  refine salloc hS fun b8 w2 hS => ?_
  refine sgo ?_
  refine ssta (vs := [int 1, str n, str [], .slice q1 es.length c1]) hS 0 fun w3 hS => ?_
  replace hS : Sep w w3 [pOwn b8 [int 1, str n, str [], .slice q1 es.length c1], pRow 2 q1 es.length c1 (es.flatMap At.cells)] := hS
  refine sgo ?_
  refine wlpure (evCheck_ok (firstE n es) q1 c1 hf w3 (hA.frm hS.frm) (hS.im 1 rfl)) fun w4 hf4 => ?_
  replace hS := hS.grow hf4
  cases he : evR (firstE n es) with
  | false =>
    have hC : wrapC (firstE n es) (lkR (evs ms)) = 180 := by rw [wrapC, if_pos he]
    refine sgo ?_
    (first | refine fp1 (.inl rfl) rfl rfl ?_ | refine fp2 (.inl rfl) rfl rfl rfl ?_ | refine fp3 (.inl rfl) rfl rfl rfl rfl ?_ | refine fp0 (.inr rfl) rfl ?_ | refine fp0 (.inl rfl) rfl ?_ | refine fp1 (.inr rfl) rfl rfl ?_)
    exact hnil 180 (by decide) hC _ hS.frm
  | true =>
    refine sgo ?_
    refine wlcall (open_ok2 ms p c hn hs w w4 _ hS (hA.frm hS.frm) (hE.frm hS.frm)) ?_
    rintro _ w5 ⟨q5, c5, rfl, -, hS⟩
    refine sgo ?_
    by_cases hr : (lkR (evs ms)).err = 0
    · have ho : openS (lkR (evs ms)) = (lkR (evs ms)).stack := if_pos hr
      rw [ho] at hS ⊢
      refine wcno ?_ (ht := by simpa using hr)
      by_cases hst : (lkR (evs ms)).stack = []
      · have hC : wrapC (firstE n es) (lkR (evs ms)) = 0 := by rw [wrapC, if_neg (by simp [he]), if_neg (by simp [hr]), if_pos hst]
        rw [hst]
        refine sgo ?_
        refine sb1a (vs := EvM.cells ⟨firstE n es, q1, c1⟩) hS fun b36 w6 hS => ?_
        replace hS := hS.turn 0 (c' := pRow 4 (pb b36) 1 1 (([⟨firstE n es, q1, c1⟩] : List EvM).flatMap EvM.cells)) rfl (fun h => Row.of_own (n := 1) h rfl (by decide)) (fun x hx => hx)
        replace hS := ((((hS.drop 1 rfl).drop 1 rfl).zero).front 2 rfl).more.front 1 rfl
        refine sgo ?_
        refine wcloop (X := Nat × Option Addr × Nat × List EvM) (fun x => [(0, str n), (12, .slice x.2.1 (x.1 + 1) x.2.2.1), (37, .slice p ms.length c), (38, int ms.length), (39, int x.1)])
          (fun x wr => x.1 ≤ ms.length ∧ x.2.2.2.length = x.1 + 1 ∧ evs x.2.2.2 = firstE n es :: (evs ms).take x.1 ∧ Sep w wr [pRow 4 x.2.1 (x.1 + 1) x.2.2.1 (x.2.2.2.flatMap EvM.cells), pMany (x.2.2.2.map EvM.row)])
          (fun x => ms.length - x.1) (0, pb b36, 1, [⟨firstE n es, q1, c1⟩]) ⟨rfl, rfl, rfl, rfl, rfl, trivial⟩ ⟨Nat.zero_le _, rfl, rfl, hS⟩ ?_
        clear hS
        rintro ⟨i, q, cc, ns⟩ wr ρ ⟨hil, hnl, hev, hS⟩
        dsimp only at *
        have hIm := hE.im
        refine sgo ?_
        (show WC _ _ _ _ _ _ _; first | refine WC_dec rfl (fun hc => ?_) (fun hc => ?_) | refine WC_cond rfl (fun hc => ?_) (fun hc => ?_))
        · have hlt : i < ms.length := by omega
          have hx : ms[i]? = some ms[i] := List.getElem?_eq_getElem hlt
          have hmem : ms[i] ∈ ms := List.getElem_mem hlt
          have hseg := fm_seg EvM.len ms hx
          have hfl := fm_len EvM.len ms
          have hat := hE.each _ hmem
          have hsm := hs _ hmem
          have hps : ∃ a, p = some a := hE.im.sg.some (by omega)
          have htk : (evs ms).take (i + 1) = (evs ms).take i ++ [ms[i].e] := by rw [List.take_add_one, evs_at hx]; rfl
          generalize ms[i] = m at *
          clear hc
          obtain ⟨e, mp, mc⟩ := m
          dsimp only at hat hsm
          refine sgo ?_
          rw [hseg]
          refine salloc hS fun b5 w5 hS => ?_
          refine sgo ?_
          refine ssta (vs := e.cells mp mc) hS 0 fun w6 hS => ?_
          replace hS : Sep w w6 [pOwn b5 [int e.kind, str e.name, str e.text, .slice mp e.attrs.length mc], pRow 4 q (i + 1) cc (ns.flatMap EvM.cells), pMany (ns.map EvM.row)] := hS
          refine sgo ?_
          refine wlcall (evCopied_ok e mp mc hsm w w6 _ hS (hat.sep hS)) ?_
          rintro _ w7 ⟨q2, c2, rfl, -, hS⟩
          refine sgo ?_
          refine sb1a (vs := EvM.cells ⟨e, q2, c2⟩) hS fun b12 w12 hS => ?_
          refine sgo ?_
          refine sapp hS 3 (hS.own 0 rfl).sg (fun q4 c4 w13 hS => ?_) (h1 := ev_one _ _ _)
          rw [evs_flat] at hS
          refine sgo ?_
          have h1 := (hS.drop 0 rfl).drop 1 rfl
          have h2 := (((h1.front 2 rfl).front 1 rfl).more).front 1 rfl
          refine ⟨(i + 1, q4, c4, ns ++ [⟨e, q2, c2⟩]), ⟨rfl, rfl, rfl, rfl, rfl, trivial⟩, ⟨hlt, by simp [hnl], by dsimp only; rw [evs_snoc, hev, htk]; rfl, ?_⟩, (by (try dsimp only); omega)⟩
          rw [List.map_append]
          exact h2
        · obtain rfl : i = ms.length := by omega
          clear hc
          rw [← evs_len ms, List.take_length] at hev
          refine sgo ?_
          refine wlbuild ?_
          refine sb1a (vs := (closeM n).cells) hS fun b9 w9 hS => ?_
          refine sapp hS 1 (hS.own 0 rfl).sg (fun q4 c4 w10 hS => ?_) (h1 := ev_one _ _ _)
          rw [evs_flat] at hS
          refine sgo ?_
          (first | refine fp1 (.inl rfl) rfl rfl ?_ | refine fp2 (.inl rfl) rfl rfl rfl ?_ | refine fp3 (.inl rfl) rfl rfl rfl rfl ?_ | refine fp0 (.inr rfl) rfl ?_ | refine fp0 (.inl rfl) rfl ?_ | refine fp1 (.inr rfl) rfl rfl ?_)
          have hrow : (ns ++ [closeM n]).map EvM.row = ns.map EvM.row ++ [⟨2, none, 0, 0, []⟩] := by rw [List.map_append]; rfl
          refine ⟨q4, c4, ns ++ [closeM n], ?_, ?_, hS.frm, ?_⟩
          · rw [hC, List.length_append, hnl]; rfl
          · rw [evs_snoc, hev, wrapE, if_pos hC]; rfl
          · rw [List.length_append, hnl, hrow]
            have h1 := ((hS.drop 0 rfl).push (c := pRow 2 none 0 0 []) (Frm.refl _) (Row.nil _ 2) (by simp [pRow, rb]))
            have h2 := (((h1.front 2 rfl).front 1 rfl).more).front 1 rfl
            exact hS0.seq (ds := [_, _]) h2
      · have hC : wrapC (firstE n es) (lkR (evs ms)) = 181 := by rw [wrapC, if_neg (by simp [he]), if_neg (by simp [hr]), if_neg hst]
        have hpos : 0 < (lkR (evs ms)).stack.length := List.length_pos_iff.2 hst
        refine sgo ?_
        refine wcyes ?_ (ht := decide_eq_true (by omega))
        refine sgo ?_
        (first | refine fp1 (.inl rfl) rfl rfl ?_ | refine fp2 (.inl rfl) rfl rfl rfl ?_ | refine fp3 (.inl rfl) rfl rfl rfl rfl ?_ | refine fp0 (.inr rfl) rfl ?_ | refine fp0 (.inl rfl) rfl ?_ | refine fp1 (.inr rfl) rfl rfl ?_)
        exact hnil 181 (by decide) hC _ hS.frm
    · have hC : wrapC (firstE n es) (lkR (evs ms)) = (lkR (evs ms)).err := by rw [wrapC, if_neg (by simp [he]), if_pos hr]
      refine wcyes ?_ (ht := by simpa using hr)
      refine sgo ?_
      (first | refine fp1 (.inl rfl) rfl rfl ?_ | refine fp2 (.inl rfl) rfl rfl rfl ?_ | refine fp3 (.inl rfl) rfl rfl rfl rfl ?_ | refine fp0 (.inr rfl) rfl ?_ | refine fp0 (.inl rfl) rfl ?_ | refine fp1 (.inr rfl) rfl rfl ?_)
      exact hnil _ hr hC _ hS.frm
end Go.Proofs.YthgbpgjpnaanlaaDoor

