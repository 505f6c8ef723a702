/-
  Packages token and sieveref07: which texts and names may be.
-/
import Derived.Test.YtfomfplddncakaaSvRef01c
namespace Go.Proofs.Ytfomfplddncakaa
open Go Go.Sv Go.RowKit

def blankR (c : Nat) : Bool := decide (c = 9 ∨ c = 10 ∨ c = 12 ∨ c = 32)
def stopR (c : Nat) : Bool := decide (c = 0 ∨ c = 9 ∨ c = 10 ∨ c = 12 ∨ c = 32 ∨ c = 47 ∨ c = 62 ∨ (65 ≤ c ∧ c ≤ 90))
/-- a byte that may not stand at a name's place i -/
def badR (attr : Bool) (l : List UInt8) (i : Nat) : Bool := stopR (at0 l i) || (attr && (decide (0 < i) && decide (at0 l i = 61)))
/-- may a name be? -/
def nameR (attr : Bool) (l : List UInt8) : Bool :=
  validR l && !decide (l = []) && (attr || (decide (97 ≤ at0 l 0) && decide (at0 l 0 ≤ 122))) && (List.range l.length).all fun i => !badR attr l i

theorem nameR_bad {attr : Bool} {l : List UInt8} {i : Nat} (hi : i < l.length) (h : badR attr l i = true) : nameR attr l = false := by
  unfold nameR
  have : (List.range l.length).all (fun i => !badR attr l i) = false := by
    rw [List.all_eq_false]
    exact ⟨i, List.mem_range.2 hi, by simp [h]⟩
  rw [this, Bool.and_false]
theorem nameR_good {attr : Bool} {l : List UInt8} (hv : validR l = true) (hl : l ≠ []) (h0 : attr = false → 97 ≤ at0 l 0 ∧ at0 l 0 ≤ 122) (h : ∀ j, j < l.length → badR attr l j = false) : nameR attr l = true := by
  unfold nameR
  have : (List.range l.length).all (fun i => !badR attr l i) = true := by
    rw [List.all_eq_true]
    intro i hi
    rw [h i (List.mem_range.1 hi)]; rfl
  rw [this, hv]
  cases attr
  · have := h0 rfl
    simp [hl, this]
  · simp [hl]
theorem nameR_not {attr : Bool} {l : List UInt8} (h : validR l = false ∨ l = [] ∨ (attr = false ∧ ¬ (97 ≤ at0 l 0 ∧ at0 l 0 ≤ 122))) : nameR attr l = false := by
  unfold nameR
  rcases h with h | h | ⟨h, h'⟩
  · simp [h]
  · simp [h]
  · have : (decide (97 ≤ at0 l 0) && decide (at0 l 0 ≤ 122)) = false := by
      rw [← Bool.decide_and]; exact decide_eq_false h'
    simp [h, this]

theorem tokValid_ok (l : List UInt8) (hb : l.length ≤ 1048576) (w : World) : PureC Try.prog 33 #[str l] w (.bool (validR l)) := by
  refine enter (l := [str l]) Try.func33 rfl Try.ntmps33 (by kernel_rfl) rfl ?_
  refine sgo ?_
  refine wls2b rfl (by omega) fun b c w1 hb1 hc1 hc2 hI hf1 => ?_
  refine wlpure (valid_ok l _ _ _ rfl hc1 (by omega) [] _ hI) fun w2 hf2 => ?_
  rw [valid_eq]
  have hf := hf1.trans hf2
  refine sgo ?_
  (first | refine fp1 (.inl rfl) rfl rfl ?_ | refine fp2 (.inl rfl) rfl rfl rfl ?_ | refine fp3 (.inl rfl) rfl rfl rfl rfl ?_ | refine fp0 (.inr rfl) rfl ?_ | refine fp0 (.inl rfl) rfl ?_ | refine fp1 (.inr rfl) rfl rfl ?_); refine ⟨?_, by (first | exact Frm.refl _ | assumption | (refine Frm.trans ?_ (by assumption); first | exact Frm.refl _ | assumption))⟩; (try simp only [realB, rv_true, Nat.reduceBEq, cond_true, cond_false, entG, real_lif, updGL])
theorem refValid7_ok (l : List UInt8) (hb : l.length ≤ 1048576) (w : World) : PureC Try.prog 27 #[str l] w (.bool (validR l)) := by
  refine enter (l := [str l]) Try.func27 rfl Try.ntmps27 (by kernel_rfl) rfl ?_
  refine sgo ?_
  refine wls2b rfl (by omega) fun b c w1 hb1 hc1 hc2 hI hf1 => ?_
  refine wlpure (refValid_ok l _ _ _ rfl hc1 (by omega) _ hI) fun w2 hf2 => ?_
  have hf := hf1.trans hf2
  refine sgo ?_
  (first | refine fp1 (.inl rfl) rfl rfl ?_ | refine fp2 (.inl rfl) rfl rfl rfl ?_ | refine fp3 (.inl rfl) rfl rfl rfl rfl ?_ | refine fp0 (.inr rfl) rfl ?_ | refine fp0 (.inl rfl) rfl ?_ | refine fp1 (.inr rfl) rfl rfl ?_); refine ⟨?_, by (first | exact Frm.refl _ | assumption | (refine Frm.trans ?_ (by assumption); first | exact Frm.refl _ | assumption))⟩; (try simp only [realB, rv_true, Nat.reduceBEq, cond_true, cond_false, entG, real_lif, updGL])
theorem blank_ok (c : Nat) (w : World) : PureC Try.prog 49 #[byt c] w (.bool (blankR c)) := by
  refine enter (l := [byt c]) Try.func49 rfl Try.ntmps49 (by kernel_rfl) rfl ?_
  refine sgo ?_
  (first | refine fp1 (.inl rfl) rfl rfl ?_ | refine fp2 (.inl rfl) rfl rfl rfl ?_ | refine fp3 (.inl rfl) rfl rfl rfl rfl ?_ | refine fp0 (.inr rfl) rfl ?_ | refine fp0 (.inl rfl) rfl ?_ | refine fp1 (.inr rfl) rfl rfl ?_); refine ⟨?_, by (first | exact Frm.refl _ | assumption | (refine Frm.trans ?_ (by assumption); first | exact Frm.refl _ | assumption))⟩; (try simp only [realB, rv_true, Nat.reduceBEq, cond_true, cond_false, entG, real_lif, updGL])
  refine congrArg Value.bool ?_
  unfold blankR
  rw [Bool.eq_iff_iff]
  simp only [pkb_or, pkb_and, Bool.or_eq_true, Bool.and_eq_true, decide_eq_true_eq]
  omega
theorem stop_ok (c : Nat) (w : World) : PureC Try.prog 45 #[byt c] w (.bool (stopR c)) := by
  refine enter (l := [byt c]) Try.func45 rfl Try.ntmps45 (by kernel_rfl) rfl ?_
  refine sgo ?_
  (first | refine fp1 (.inl rfl) rfl rfl ?_ | refine fp2 (.inl rfl) rfl rfl rfl ?_ | refine fp3 (.inl rfl) rfl rfl rfl rfl ?_ | refine fp0 (.inr rfl) rfl ?_ | refine fp0 (.inl rfl) rfl ?_ | refine fp1 (.inr rfl) rfl rfl ?_); refine ⟨?_, by (first | exact Frm.refl _ | assumption | (refine Frm.trans ?_ (by assumption); first | exact Frm.refl _ | assumption))⟩; (try simp only [realB, rv_true, Nat.reduceBEq, cond_true, cond_false, entG, real_lif, updGL])
  refine congrArg Value.bool ?_
  unfold stopR
  rw [Bool.eq_iff_iff]
  simp only [pkb_or, pkb_and, Bool.or_eq_true, Bool.and_eq_true, decide_eq_true_eq]
  omega
theorem len_pos_of_ne {l : List UInt8} (h : l ≠ []) : 0 < l.length := List.length_pos_iff.2 h

theorem bad_name (attr : Bool) (l : List UInt8) (i : Nat) : (pkb (pkb (pkb (pkb (pkb (blankR (at0 l i)) true (decide ((at0 l i : Int) = 47))) true (decide ((at0 l i : Int) = 62))) true (pkb (decide ((65:Int) ≤ at0 l i)) (decide ((at0 l i : Int) ≤ 90)) false)) true (decide ((at0 l i : Int) = 0))) true
    (pkb (pkb attr (decide ((at0 l i : Int) = 61)) false) (decide ((0 : Int) < i)) false)) = badR attr l i := by
  unfold badR blankR stopR
  rw [Bool.eq_iff_iff]
  cases attr <;> simp only [pkb_or, pkb_and, Bool.or_eq_true, Bool.and_eq_true, decide_eq_true_eq, Bool.false_eq_true, true_and, false_and, or_false, false_or] <;> omega

theorem name_ok (l : List UInt8) (attr : Bool) (hb : l.length ≤ 1048576) (w : World) : PureC Try.prog 34 #[str l, .bool attr] w (.bool (nameR attr l)) := by
  by_cases hl : l = []
  · subst hl
    refine enter (l := [str [], .bool attr]) Try.func34 rfl Try.ntmps34 (by kernel_rfl) rfl ?_
    refine sgo ?_
    refine wlcallgp (vals := [str []]) (fun _ => tokValid_ok [] (by simp) _) fun w1 hf1 => ?_
    refine sgo ?_
    (show WC _ _ _ _ _ _ _; first | refine WC_dec rfl (fun hc => ?_) (fun hc => ?_) | refine WC_cond rfl (fun hc => ?_) (fun hc => ?_))
    · refine sgo ?_
      (first | refine fp1 (.inl rfl) rfl rfl ?_ | refine fp2 (.inl rfl) rfl rfl rfl ?_ | refine fp3 (.inl rfl) rfl rfl rfl rfl ?_ | refine fp0 (.inr rfl) rfl ?_ | refine fp0 (.inl rfl) rfl ?_ | refine fp1 (.inr rfl) rfl rfl ?_); refine ⟨?_, by (first | exact Frm.refl _ | assumption | (refine Frm.trans ?_ (by assumption); first | exact Frm.refl _ | assumption))⟩; (try simp only [realB, rv_true, Nat.reduceBEq, cond_true, cond_false, entG, real_lif, updGL])
      rw [nameR_not (.inr (.inl rfl))]
    · simp [pkb] at hc
  have hlen := len_pos_of_ne hl
  refine enter (l := [str l, .bool attr]) Try.func34 rfl Try.ntmps34 (by kernel_rfl) rfl ?_
  refine sgo ?_
  refine wlcallgp (fun _ => tokValid_ok l hb _) fun w1 hf1 => ?_
  refine sgo ?_
  (show WC _ _ _ _ _ _ _; first | refine WC_dec rfl (fun hc => ?_) (fun hc => ?_) | refine WC_cond rfl (fun hc => ?_) (fun hc => ?_))
  · refine sgo ?_
    (first | refine fp1 (.inl rfl) rfl rfl ?_ | refine fp2 (.inl rfl) rfl rfl rfl ?_ | refine fp3 (.inl rfl) rfl rfl rfl rfl ?_ | refine fp0 (.inr rfl) rfl ?_ | refine fp0 (.inl rfl) rfl ?_ | refine fp1 (.inr rfl) rfl rfl ?_); refine ⟨?_, by (first | exact Frm.refl _ | assumption | (refine Frm.trans ?_ (by assumption); first | exact Frm.refl _ | assumption))⟩; (try simp only [realB, rv_true, Nat.reduceBEq, cond_true, cond_false, entG, real_lif, updGL])
    rw [nameR_not ?_]
    simp only [pkb_or, pkb_and, Bool.or_eq_true, Bool.and_eq_true, decide_eq_true_eq, Bool.not_eq_true'] at hc
    rcases hc with (h | h) | ⟨h, h'⟩
    · exact absurd h hl
    · exact .inl h
    · exact .inr (.inr ⟨h, by simp only [at0]; omega⟩)
  · have hv : validR l = true ∧ (attr = false → 97 ≤ at0 l 0 ∧ at0 l 0 ≤ 122) := by
      simp only [pkb_or, pkb_and, Bool.or_eq_false_iff, Bool.and_eq_false_iff, decide_eq_false_iff_not, Bool.not_eq_false'] at hc
      refine ⟨hc.1.2, fun h => ?_⟩
      rcases hc.2 with h2 | h2
      · rw [h] at h2; cases h2
      · simp only [at0]; omega
    clear hc
    refine sgo ?_
    refine wcloop (X := Nat) (fun x => [(0, str l), (1, .bool attr), (29, int l.length), (30, int x)])
      (fun x wr => x ≤ l.length ∧ (∀ j, j < x → badR attr l j = false) ∧ Frm w wr) (fun x => l.length - x) 0 ⟨rfl, rfl, rfl, rfl, trivial⟩ ⟨by omega, by intro j hj; omega, hf1⟩ ?_
    rintro i wr ρ ⟨hi, hj, hfr⟩
    try dsimp only
    refine sgo ?_
    (show WC _ _ _ _ _ _ _; first | refine WC_dec rfl (fun hc => ?_) (fun hc => ?_) | refine WC_cond rfl (fun hc => ?_) (fun hc => ?_))
    · refine sgo ?_
      refine wlpure (blank_ok (at0 l i) _) fun w2 hf2 => ?_
      have hfr2 := hfr.trans hf2
      have hbad := bad_name attr l i
      refine sgo ?_
      (show WC _ _ _ _ _ _ _; first | refine WC_dec rfl (fun hc => ?_) (fun hc => ?_) | refine WC_cond rfl (fun hc => ?_) (fun hc => ?_))
      · rw [hbad] at hc
        refine sgo ?_
        (first | refine fp1 (.inl rfl) rfl rfl ?_ | refine fp2 (.inl rfl) rfl rfl rfl ?_ | refine fp3 (.inl rfl) rfl rfl rfl rfl ?_ | refine fp0 (.inr rfl) rfl ?_ | refine fp0 (.inl rfl) rfl ?_ | refine fp1 (.inr rfl) rfl rfl ?_); refine ⟨?_, by (first | exact Frm.refl _ | assumption | (refine Frm.trans ?_ (by assumption); first | exact Frm.refl _ | assumption))⟩; (try simp only [realB, rv_true, Nat.reduceBEq, cond_true, cond_false, entG, real_lif, updGL])
        rw [nameR_bad (i := i) (by omega) hc]
      · rw [hbad] at hc
        refine sgo ?_
        refine ⟨i + 1, ⟨rfl, rfl, rfl, rfl, trivial⟩, ⟨by omega, ?_, hfr2⟩, by omega⟩
        intro j hj'
        rcases Nat.lt_or_ge j i with h | h
        · exact hj j h
        · obtain rfl : j = i := by omega
          exact hc
    · refine sgo ?_
      (first | refine fp1 (.inl rfl) rfl rfl ?_ | refine fp2 (.inl rfl) rfl rfl rfl ?_ | refine fp3 (.inl rfl) rfl rfl rfl rfl ?_ | refine fp0 (.inr rfl) rfl ?_ | refine fp0 (.inl rfl) rfl ?_ | refine fp1 (.inr rfl) rfl rfl ?_); refine ⟨?_, by (first | exact Frm.refl _ | assumption | (refine Frm.trans ?_ (by assumption); first | exact Frm.refl _ | assumption))⟩; (try simp only [realB, rv_true, Nat.reduceBEq, cond_true, cond_false, entG, real_lif, updGL])
      obtain rfl : i = l.length := by omega
      rw [nameR_good hv.1 hl hv.2 hj]
end Go.Proofs.Ytfomfplddncakaa
