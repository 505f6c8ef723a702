/-
  Package sievelaw12: LinkResolves.
-/
import Derived.Test.YtffaoehhhdcjjaaSvLkL
set_option linter.unusedSimpArgs false
set_option linter.unusedVariables false
set_option linter.unnecessarySimpa false
namespace Go.Proofs.Ytffaoehhhdcjjaa
open Go Go.Sv Go.RowKit
def lnkEq (l m : Lnk) : Bool := decide (l.sc = m.sc) && (decide (l.ho = m.ho) && (decide (l.pa = m.pa) && (decide (l.qu = m.qu) && (decide (l.fr = m.fr) && (decide (l.hs = m.hs) && (decide (l.hh = m.hh) && (decide (l.hq = m.hq) && (decide (l.hf = m.hf) && true))))))))
theorem lnkEq_iff (l m : Lnk) : lnkEq l m = true ↔ l = m := by
  obtain ⟨a1, a2, a3, a4, a5, a6, a7, a8, a9⟩ := l
  obtain ⟨b1, b2, b3, b4, b5, b6, b7, b8, b9⟩ := m
  simp only [lnkEq, Bool.and_eq_true, decide_eq_true_eq, Bool.and_true, Lnk.mk.injEq]
theorem lnkEq_self (l : Lnk) : lnkEq l l = true := (lnkEq_iff l l).2 rfl
theorem eqL_lnk (l m : Lnk) : eqL [.string, .string, .string, .string, .string, .bool, .bool, .bool, .bool] l.cells m.cells = some (lnkEq l m) := rfl
set_option maxHeartbeats 1000000 in
theorem linkResolves_ok (b r : Lnk) (hb : b.sm 1048576) (hr : r.sm 1048576) (w : World) : PureC Try.prog 6 #[b.v, r.v] w (.bool true) := by
  have hb' : b.sm 16777216 := by unfold Lnk.sm at *; omega
  have hr' : r.sm 16777216 := by unfold Lnk.sm at *; omega
  have gb : b.mend.sm 134217728 := by have := b.mend_sm hb; unfold Lnk.sm at *; omega
  have gr : r.mend.sm 134217728 := by have := r.mend_sm hr; unfold Lnk.sm at *; omega
  refine enter (l := [b.v, r.v]) Try.func6 rfl Try.ntmps6 (by kernel_rfl) rfl ?_
  refine sgo ?_
  refine wlbox (hx := rfl) fun b2 w1 hb2 o2 hf1 => ?_
  refine wlbox (hx := rfl) fun b3 w2 hb3 o3 hf2 => ?_
  replace o2 : Own w1 b2 b.cells := o2
  replace o3 : Own w2 b3 r.cells := o3
  have hl2 := o2.lt
  have hl3 := o3.lt
  replace o2 := o2.frm hf2
  have hf := hf1.trans hf2
  refine sgo ?_
  refine wcdraw ?_
  refine qgo ?_
  refine qlcallp (fun w _ => to_ok b w) ?_
  refine qgo ?_
  refine qlcallp (fun w _ => to_ok r w) ?_
  refine qlcallp (fun w _ => resolve_ok b r hb' hr' w) ?_
  refine qgo ?_
  refine qlcallp (fun w _ => refMended_ok b hb' w) ?_
  refine qgo ?_
  refine qlcallp (fun w _ => refMended_ok r hr' w) ?_
  refine qlcallp (fun w _ => refResolve_ok b.mend r.mend gb gr w) ?_
  refine qlcallp (fun w _ => to_ok _ w) ?_
  refine ql ?_ (YQ.ofY fun w _ => y_aeql rfl rfl (eqL_lnk _ _))
  rw [lnkEq_self]
  refine qgo ?_
  refine qlcallgp (vals := []) (fun _ w _ => awake_ok w) ?_ (ha := fun _ => rfl)
  refine qgo ?_
  refine QL_nil ?_
  intro wd hwd
  replace hf := hf.trans hwd
  refine sgo ?_
  (first | refine fp1 (.inl rfl) rfl rfl ?_ | refine fp2 (.inl rfl) rfl rfl rfl ?_ | refine fp3 (.inl rfl) rfl rfl rfl rfl ?_ | refine fp0 (.inr rfl) rfl ?_ | refine fp0 (.inl rfl) rfl ?_ | refine fp1 (.inr rfl) rfl rfl ?_); refine ⟨?_, by (first | exact Frm.refl _ | assumption | (refine Frm.trans ?_ (by assumption); first | exact Frm.refl _ | assumption))⟩; (try simp only [realB, rv_true, Nat.reduceBEq, cond_true, cond_false, entG, real_lif, updGL])
  rfl
end Go.Proofs.Ytffaoehhhdcjjaa
