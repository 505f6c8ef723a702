/-
  Package sieveref07: names of tags and attributes.
-/
import Derived.Test.YtfomfplddncakaaSvTokA
namespace Go.Proofs.Ytfomfplddncakaa
open Go Go.Sv Go.RowKit

theorem tagName_ok (l : List UInt8) (hb : l.length ≤ 1048576) (w : World) : PureC Try.prog 28 #[str l] w (.bool (nameR false l)) := by
  by_cases hl : l = []
  · subst hl
    refine enter (l := [str []]) Try.func28 rfl Try.ntmps28 (by kernel_rfl) rfl ?_
    refine sgo ?_
    refine wlpure (refValid7_ok [] (by simp) _) fun w1 hf1 => ?_
    refine sgo ?_
    (first | refine fp1 (.inl rfl) rfl rfl ?_ | refine fp2 (.inl rfl) rfl rfl rfl ?_ | refine fp3 (.inl rfl) rfl rfl rfl rfl ?_ | refine fp0 (.inr rfl) rfl ?_ | refine fp0 (.inl rfl) rfl ?_ | refine fp1 (.inr rfl) rfl rfl ?_); refine ⟨?_, by (first | exact Frm.refl _ | assumption | (refine Frm.trans ?_ (by assumption); first | exact Frm.refl _ | assumption))⟩; (try simp only [realB, rv_true, Nat.reduceBEq, cond_true, cond_false, entG, real_lif, updGL])
    rw [nameR_not (.inr (.inl rfl))]
  have hlen := len_pos_of_ne hl
  refine enter (l := [str l]) Try.func28 rfl Try.ntmps28 (by kernel_rfl) rfl ?_
  refine sgo ?_
  refine wlpure (refValid7_ok l hb _) fun w1 hf1 => ?_
  refine sgo ?_
  (show WC _ _ _ _ _ _ _; first | refine WC_dec rfl (fun hc => ?_) (fun hc => ?_) | refine WC_cond rfl (fun hc => ?_) (fun hc => ?_))
  · refine sgo ?_
    (first | refine fp1 (.inl rfl) rfl rfl ?_ | refine fp2 (.inl rfl) rfl rfl rfl ?_ | refine fp3 (.inl rfl) rfl rfl rfl rfl ?_ | refine fp0 (.inr rfl) rfl ?_ | refine fp0 (.inl rfl) rfl ?_ | refine fp1 (.inr rfl) rfl rfl ?_); refine ⟨?_, by (first | exact Frm.refl _ | assumption | (refine Frm.trans ?_ (by assumption); first | exact Frm.refl _ | assumption))⟩; (try simp only [realB, rv_true, Nat.reduceBEq, cond_true, cond_false, entG, real_lif, updGL])
    rw [nameR_not ?_]
    simp only [pkb_or, pkb_and, Bool.or_eq_true, Bool.and_eq_true, decide_eq_true_eq, Bool.not_eq_true'] at hc
    rcases hc with ((h | h) | h) | h
    · exact .inl h
    · exact absurd h hl
    · exact .inr (.inr ⟨rfl, by simp only [at0]; omega⟩)
    · exact .inr (.inr ⟨rfl, by simp only [at0]; omega⟩)
  · have hv : validR l = true ∧ (97 ≤ at0 l 0 ∧ at0 l 0 ≤ 122) := by
      simp only [pkb_or, pkb_and, Bool.or_eq_false_iff, Bool.and_eq_false_iff, decide_eq_false_iff_not, Bool.not_eq_false'] at hc
      exact ⟨hc.1.1.1, by simp only [at0]; omega⟩
    clear hc
    refine sgo ?_
    refine wcloop (X := Nat) (fun x => [(0, str l), (3, int x)])
      (fun x wr => x ≤ l.length ∧ (∀ j, j < x → badR false l j = false) ∧ Frm w wr) (fun x => l.length - x) 0 ⟨rfl, rfl, trivial⟩ ⟨by omega, by intro j hj; omega, hf1⟩ ?_
    rintro i wr ρ ⟨hi, hj, hfr⟩
    try dsimp only
    refine sgo ?_
    (show WC _ _ _ _ _ _ _; first | refine WC_dec rfl (fun hc => ?_) (fun hc => ?_) | refine WC_cond rfl (fun hc => ?_) (fun hc => ?_))
    · refine sgo ?_
      refine wlpure (stop_ok (at0 l i) _) fun w2 hf2 => ?_
      have hfr2 := hfr.trans hf2
      have hbad : stopR (at0 l i) = badR false l i := by simp [badR]
      generalize stopR (at0 l i) = st at hbad ⊢
      refine sgo ?_
      (show WC _ _ _ _ _ _ _; first | refine WC_dec rfl (fun hc => ?_) (fun hc => ?_) | refine WC_cond rfl (fun hc => ?_) (fun hc => ?_))
      · rw [hbad] at hc
        refine sgo ?_
        (first | refine fp1 (.inl rfl) rfl rfl ?_ | refine fp2 (.inl rfl) rfl rfl rfl ?_ | refine fp3 (.inl rfl) rfl rfl rfl rfl ?_ | refine fp0 (.inr rfl) rfl ?_ | refine fp0 (.inl rfl) rfl ?_ | refine fp1 (.inr rfl) rfl rfl ?_); refine ⟨?_, by (first | exact Frm.refl _ | assumption | (refine Frm.trans ?_ (by assumption); first | exact Frm.refl _ | assumption))⟩; (try simp only [realB, rv_true, Nat.reduceBEq, cond_true, cond_false, entG, real_lif, updGL])
        rw [nameR_bad (i := i) (by omega) hc]
      · rw [hbad] at hc
        refine sgo ?_
        refine ⟨i + 1, ⟨rfl, rfl, trivial⟩, ⟨by omega, ?_, hfr2⟩, by omega⟩
        intro j hj'
        rcases Nat.lt_or_ge j i with h | h
        · exact hj j h
        · obtain rfl : j = i := by omega
          exact hc
    · refine sgo ?_
      (first | refine fp1 (.inl rfl) rfl rfl ?_ | refine fp2 (.inl rfl) rfl rfl rfl ?_ | refine fp3 (.inl rfl) rfl rfl rfl rfl ?_ | refine fp0 (.inr rfl) rfl ?_ | refine fp0 (.inl rfl) rfl ?_ | refine fp1 (.inr rfl) rfl rfl ?_); refine ⟨?_, by (first | exact Frm.refl _ | assumption | (refine Frm.trans ?_ (by assumption); first | exact Frm.refl _ | assumption))⟩; (try simp only [realB, rv_true, Nat.reduceBEq, cond_true, cond_false, entG, real_lif, updGL])
      obtain rfl : i = l.length := by omega
      rw [nameR_good hv.1 hl (fun _ => hv.2) hj]

theorem attrName_ok (l : List UInt8) (hb : l.length ≤ 1048576) (w : World) : PureC Try.prog 46 #[str l] w (.bool (nameR true l)) := by
  refine enter (l := [str l]) Try.func46 rfl Try.ntmps46 (by kernel_rfl) rfl ?_
  refine sgo ?_
  refine wlpure (refValid7_ok l hb _) fun w1 hf1 => ?_
  refine sgo ?_
  (show WC _ _ _ _ _ _ _; first | refine WC_dec rfl (fun hc => ?_) (fun hc => ?_) | refine WC_cond rfl (fun hc => ?_) (fun hc => ?_))
  · refine sgo ?_
    (first | refine fp1 (.inl rfl) rfl rfl ?_ | refine fp2 (.inl rfl) rfl rfl rfl ?_ | refine fp3 (.inl rfl) rfl rfl rfl rfl ?_ | refine fp0 (.inr rfl) rfl ?_ | refine fp0 (.inl rfl) rfl ?_ | refine fp1 (.inr rfl) rfl rfl ?_); refine ⟨?_, by (first | exact Frm.refl _ | assumption | (refine Frm.trans ?_ (by assumption); first | exact Frm.refl _ | assumption))⟩; (try simp only [realB, rv_true, Nat.reduceBEq, cond_true, cond_false, entG, real_lif, updGL])
    rw [nameR_not ?_]
    simp only [pkb_or, pkb_and, Bool.or_eq_true, Bool.and_eq_true, decide_eq_true_eq, Bool.not_eq_true'] at hc
    rcases hc with h | h
    · exact .inl h
    · exact .inr (.inl h)
  · have hv : validR l = true ∧ l ≠ [] := by
      simp only [pkb_or, pkb_and, Bool.or_eq_false_iff, Bool.and_eq_false_iff, decide_eq_false_iff_not, Bool.not_eq_false'] at hc
      exact hc
    clear hc
    refine sgo ?_
    refine wcloop (X := Nat) (fun x => [(0, str l), (3, int x)])
      (fun x wr => x ≤ l.length ∧ (∀ j, j < x → badR true l j = false) ∧ Frm w wr) (fun x => l.length - x) 0 ⟨rfl, rfl, trivial⟩ ⟨by omega, by intro j hj; omega, hf1⟩ ?_
    rintro i wr ρ ⟨hi, hj, hfr⟩
    try dsimp only
    refine sgo ?_
    (show WC _ _ _ _ _ _ _; first | refine WC_dec rfl (fun hc => ?_) (fun hc => ?_) | refine WC_cond rfl (fun hc => ?_) (fun hc => ?_))
    · refine sgo ?_
      refine wlpure (stop_ok (at0 l i) _) fun w2 hf2 => ?_
      have hfr2 := hfr.trans hf2
      have hbad : pkb (stopR (at0 l i)) true (pkb (decide ((0 : Int) < i)) (decide ((at0 l i : Int) = 61)) false) = badR true l i := by
        unfold badR
        rw [Bool.eq_iff_iff]
        simp only [pkb_or, pkb_and, Bool.or_eq_true, Bool.and_eq_true, decide_eq_true_eq, true_and]
        constructor <;> (rintro (h | h); exact .inl h; exact .inr (by omega))
      refine sgo ?_
      (show WC _ _ _ _ _ _ _; first | refine WC_dec rfl (fun hc => ?_) (fun hc => ?_) | refine WC_cond rfl (fun hc => ?_) (fun hc => ?_))
      · rw [hbad] at hc
        refine sgo ?_
        (first | refine fp1 (.inl rfl) rfl rfl ?_ | refine fp2 (.inl rfl) rfl rfl rfl ?_ | refine fp3 (.inl rfl) rfl rfl rfl rfl ?_ | refine fp0 (.inr rfl) rfl ?_ | refine fp0 (.inl rfl) rfl ?_ | refine fp1 (.inr rfl) rfl rfl ?_); refine ⟨?_, by (first | exact Frm.refl _ | assumption | (refine Frm.trans ?_ (by assumption); first | exact Frm.refl _ | assumption))⟩; (try simp only [realB, rv_true, Nat.reduceBEq, cond_true, cond_false, entG, real_lif, updGL])
        rw [nameR_bad (i := i) (by omega) hc]
      · rw [hbad] at hc
        refine sgo ?_
        refine ⟨i + 1, ⟨rfl, rfl, trivial⟩, ⟨by omega, ?_, hfr2⟩, by omega⟩
        intro j hj'
        rcases Nat.lt_or_ge j i with h | h
        · exact hj j h
        · obtain rfl : j = i := by omega
          exact hc
    · refine sgo ?_
      (first | refine fp1 (.inl rfl) rfl rfl ?_ | refine fp2 (.inl rfl) rfl rfl rfl ?_ | refine fp3 (.inl rfl) rfl rfl rfl rfl ?_ | refine fp0 (.inr rfl) rfl ?_ | refine fp0 (.inl rfl) rfl ?_ | refine fp1 (.inr rfl) rfl rfl ?_); refine ⟨?_, by (first | exact Frm.refl _ | assumption | (refine Frm.trans ?_ (by assumption); first | exact Frm.refl _ | assumption))⟩; (try simp only [realB, rv_true, Nat.reduceBEq, cond_true, cond_false, entG, real_lif, updGL])
      obtain rfl : i = l.length := by omega
      rw [nameR_good hv.1 hv.2 (fun h => by cases h) hj]
end Go.Proofs.Ytfomfplddncakaa
