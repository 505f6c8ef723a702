/-
  Package link: Dots, walked.
-/
import Derived.Test.YtffaoehhhdcjjaaSvLkE
set_option linter.unusedSimpArgs false
set_option linter.unusedVariables false
set_option linter.unnecessarySimpa false
namespace Go.Proofs.Ytffaoehhhdcjjaa
open Go Go.Sv Go.RowKit

set_option maxHeartbeats 2000000 in
theorem dots_ok (l0 : List UInt8) (hb : l0.length ≤ 1073741824) (w : World) : PureC Try.prog 14 #[str l0] w (str (dotsL (mendR l0) [])) := by
  refine enter (l := [str l0]) Try.func14 rfl Try.ntmps14 (by kernel_rfl) rfl ?_
  refine sgo ?_
  refine wlpure (mend_ok l0 hb _) fun w1 hf1 => ?_
  have hml := mendR_len l0
  generalize mendR l0 = t at *
  refine sgo ?_
  refine wcloop (X := List UInt8 × List UInt8) (fun x => [(0, str x.1), (3, str x.2)])
    (fun x wr => dotsL x.1 x.2 = dotsL t [] ∧ x.1.length + x.2.length ≤ t.length ∧ Frm w wr) (fun x => x.1.length) (t, []) ⟨rfl, rfl, trivial⟩ ⟨rfl, by simp, hf1⟩ ?_
  rintro ⟨l, o⟩ wr ρ ⟨he, hlen, hfr⟩
  dsimp only at he hlen ⊢
  refine sgo ?_
  (show WC _ _ _ _ _ _ _; first | refine WC_dec rfl (fun hc => ?_) (fun hc => ?_) | refine WC_cond rfl (fun hc => ?_) (fun hc => ?_))
  · have hne : l ≠ [] := by simpa using hc
    clear hc
    have h0 : 0 < l.length := List.length_pos_iff.2 hne
    have fin : ∀ l' o' w', dotStep l o = (l', o') → Frm w w' → (dotsL l' o' = dotsL t [] ∧ l'.length + o'.length ≤ t.length ∧ Frm w w') ∧ l'.length < l.length := by
      intro l' o' w' h hw'
      have h1 := dotsL_step l o hne
      have h2 := dotStep_lt l o hne
      have h3 := dotStep_len l o
      rw [h] at h1 h2 h3
      exact ⟨⟨by rw [← h1]; exact he, by dsimp only at h3; omega, hw'⟩, h2⟩
    clear he
    refine sgo ?_
    refine wlpure (hasPrefix_ok l [46, 46, 47] _) fun w2 hf2 => ?_
    replace hfr := hfr.trans hf2
    clear hf2
    cases g1 : pfx [46, 46, 47] l with
    | true =>
      have hl := pfx_len g1
      simp only [List.length_cons, List.length_nil] at hl
      have hds : dotStep l o = (l.drop 3, o) := by unfold dotStep; rw [if_pos g1]
      unfold pfx at g1
      rw [g1]
      refine sgo ?_
      exact ⟨(l.drop 3, o), ⟨rfl, rfl, trivial⟩, fin _ _ _ hds hfr⟩
    | false =>
    have g1' : [46, 46, 47].isPrefixOf l = false := g1
    rw [g1']
    refine sgo ?_
    refine wlpure (hasPrefix_ok l [46, 47] _) fun w3 hf3 => ?_
    replace hfr := hfr.trans hf3
    clear hf3
    cases g2 : pfx [46, 47] l with
    | true =>
      have hl := pfx_len g2
      simp only [List.length_cons, List.length_nil] at hl
      have hds : dotStep l o = (l.drop 2, o) := by unfold dotStep; simp only [g1, g2, if_true, Bool.false_eq_true, if_false]
      unfold pfx at g2
      rw [g2]
      refine sgo ?_
      exact ⟨(l.drop 2, o), ⟨rfl, rfl, trivial⟩, fin _ _ _ hds hfr⟩
    | false =>
    have g2' : [46, 47].isPrefixOf l = false := g2
    rw [g2']
    refine sgo ?_
    refine wlpure (hasPrefix_ok l [47, 46, 47] _) fun w4 hf4 => ?_
    replace hfr := hfr.trans hf4
    clear hf4
    cases g3 : pfx [47, 46, 47] l with
    | true =>
      have hl := pfx_len g3
      simp only [List.length_cons, List.length_nil] at hl
      have hds : dotStep l o = (l.drop 2, o) := by unfold dotStep; simp only [g1, g2, g3, if_true, Bool.false_eq_true, if_false]
      unfold pfx at g3
      rw [g3]
      refine sgo ?_
      exact ⟨(l.drop 2, o), ⟨rfl, rfl, trivial⟩, fin _ _ _ hds hfr⟩
    | false =>
    have g3' : [47, 46, 47].isPrefixOf l = false := g3
    rw [g3']
    refine sgo ?_
    (show WC _ _ _ _ _ _ _; first | refine WC_dec rfl (fun hc => ?_) (fun hc => ?_) | refine WC_cond rfl (fun hc => ?_) (fun hc => ?_))
    · have hds : dotStep l o = ([47], o) := by unfold dotStep; simp only [g1, g2, g3, if_true, Bool.false_eq_true, if_false]; rw [if_pos hc]
      refine sgo ?_
      exact ⟨([47], o), ⟨rfl, rfl, trivial⟩, fin _ _ _ hds hfr⟩
    have g4 := hc
    clear hc
    refine sgo ?_
    refine wlpure (hasPrefix_ok l [47, 46, 46, 47] _) fun w5 hf5 => ?_
    replace hfr := hfr.trans hf5
    clear hf5
    cases g5 : pfx [47, 46, 46, 47] l with
    | true =>
      have hl := pfx_len g5
      simp only [List.length_cons, List.length_nil] at hl
      have hds : dotStep l o = (l.drop 3, parR o) := by unfold dotStep; simp only [g1, g2, g3, g4, g5, if_true, Bool.false_eq_true, if_false]
      unfold pfx at g5
      rw [g5]
      refine sgo ?_
      refine wcdraw ?_
      refine qgo ?_
      refine qlcallp (fun w _ => parent_ok o (by omega) w) ?_
      refine qgo ?_
      refine QL_nil ?_
      intro wd hwd
      refine sgo ?_
      exact ⟨(l.drop 3, parR o), ⟨rfl, rfl, trivial⟩, fin _ _ _ hds (hfr.trans hwd)⟩
    | false =>
    have g5' : [47, 46, 46, 47].isPrefixOf l = false := g5
    rw [g5']
    refine sgo ?_
    (show WC _ _ _ _ _ _ _; first | refine WC_dec rfl (fun hc => ?_) (fun hc => ?_) | refine WC_cond rfl (fun hc => ?_) (fun hc => ?_))
    · have hds : dotStep l o = ([47], parR o) := by unfold dotStep; simp only [g1, g2, g3, g4, g5, if_true, Bool.false_eq_true, if_false]; rw [if_pos hc]
      refine sgo ?_
      refine wlpure (parent_ok o (by omega) _) fun w6 hf6 => ?_
      refine sgo ?_
      exact ⟨([47], parR o), ⟨rfl, rfl, trivial⟩, fin _ _ _ hds (hfr.trans hf6)⟩
    have g6 := hc
    clear hc
    refine sgo ?_
    (show WC _ _ _ _ _ _ _; first | refine WC_dec rfl (fun hc => ?_) (fun hc => ?_) | refine WC_cond rfl (fun hc => ?_) (fun hc => ?_))
    · have hds : dotStep l o = ([], o) := by
        unfold dotStep; simp only [g1, g2, g3, g4, g5, g6, if_true, Bool.false_eq_true, if_false]
        rw [if_pos (by simpa [pkb_or] using hc)]
      refine sgo ?_
      exact ⟨([], o), ⟨rfl, rfl, trivial⟩, fin _ _ _ hds hfr⟩
    have g7 : ¬ (l = [46] ∨ l = [46, 46]) := by simpa [pkb_or] using hc
    clear hc
    have hds : dotStep l o = (l.drop (segN l), o ++ l.take (segN l)) := by unfold dotStep; simp only [g1, g2, g3, g4, g5, g6, g7, if_true, Bool.false_eq_true, if_false]
    have hib := indexByte_up (l.drop 1) 47
    have hup := upR_le (l.drop 1) [47]
    have hnot := fun h : (47 : UInt8) ∉ l.drop 1 => up_not h
    have hdl : (l.drop 1).length = l.length - 1 := by simp
    unfold segN at hds
    refine sgo ?_
    refine wlpure (indexByte_ok (l.drop 1) 47 _) fun w6 hf6 => ?_
    rw [show UInt8.ofNat 47 = 47 from rfl, hib]
    replace hfr := hfr.trans hf6
    generalize upR (l.drop 1) [47] = m at *
    by_cases hm : (47 : UInt8) ∈ l.drop 1
    · rw [if_pos hm]
      clear hnot hib
      refine sgo ?_
      (show WC _ _ _ _ _ _ _; first | refine WC_dec rfl (fun hc => ?_) (fun hc => ?_) | refine WC_cond rfl (fun hc => ?_) (fun hc => ?_))
      · omega
      have e : ((m : Int) + 1).toNat = 1 + m := by omega
      refine sgo ?_
      exact ⟨(l.drop (1 + m), o ++ l.take (1 + m)), ⟨congrArg (fun n => str (List.drop n l)) e, congrArg (fun n => str (o ++ List.take n l)) e, trivial⟩, fin _ _ _ hds hfr⟩
    · have hmm := hnot hm
      rw [if_neg hm]
      clear hnot hib
      have e : ((l.length : Int) - 1 + 1).toNat = 1 + m := by omega
      refine sgo ?_
      exact ⟨(l.drop (1 + m), o ++ l.take (1 + m)), ⟨congrArg (fun n => str (List.drop n l)) e, congrArg (fun n => str (o ++ List.take n l)) e, trivial⟩, fin _ _ _ hds hfr⟩
  · have hne : l = [] := by simpa using hc
    subst hne
    rw [dotsL_nil] at he
    refine sgo ?_
    (first | refine fp1 (.inl rfl) rfl rfl ?_ | refine fp2 (.inl rfl) rfl rfl rfl ?_ | refine fp3 (.inl rfl) rfl rfl rfl rfl ?_ | refine fp0 (.inr rfl) rfl ?_ | refine fp0 (.inl rfl) rfl ?_ | refine fp1 (.inr rfl) rfl rfl ?_); refine ⟨?_, by (first | exact Frm.refl _ | assumption | (refine Frm.trans ?_ (by assumption); first | exact Frm.refl _ | assumption))⟩; (try simp only [realB, rv_true, Nat.reduceBEq, cond_true, cond_false, entG, real_lif, updGL])
    rw [he]
end Go.Proofs.Ytffaoehhhdcjjaa
