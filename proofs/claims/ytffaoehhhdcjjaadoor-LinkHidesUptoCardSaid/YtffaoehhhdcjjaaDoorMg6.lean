/-
  Our texts SvLkR, SvLkS, SvFp, SvLkT, SvPost, SvOpen, SvOpn, SvNever, SvLkU, SvHideA, SvHideB, joined.
-/
import Derived.Test.YtffaoehhhdcjjaaDoorMg5
import Derived.ChangeSame
import Derived.Test.YtffaoehhhdcjjaaDoorRows
import Derived.WalkKit
import Derived.ProofKit
import Derived.OpenShut
import Derived.JoinedCond
import Derived.Deep.Slices
import Derived.WideKeyArgs
import Derived.Lib.LaidTab
import Derived.Deep.DeepHandedRow
/-
  Packages link and sieveref12: Strip, Scheme, Kind.
-/
set_option linter.unusedSimpArgs false
set_option linter.unusedVariables false
set_option linter.unnecessarySimpa false
namespace Go.Proofs.YtffaoehhhdcjjaaDoor
open Go Go.Sv Go.RowKit

set_option maxHeartbeats 1000000 in
theorem lower4_ok (l : List UInt8) (hb : l.length ≤ 4611686018427387904) (w : World) : PureC Tryd.prog 34 #[str l] w (str (lowR l)) := by
  refine enter (l := [str l]) Tryd.func34 rfl Tryd.ntmps34 (by kernel_rfl) rfl ?_
  refine sgo ?_
  refine wls2bo rfl (by omega) fun b c w1 hb1 hc1 hc2 ho hf1 => ?_
  refine sgo ?_
  refine wcloop (X := Nat) (fun x => [(3, .slice (pb b) l.length c), (7, .slice (pb b) l.length c), (8, int l.length), (9, int x)])
    (fun x wr => x ≤ l.length ∧ OwnB wr b (lowTo l x) ∧ Frm w wr) (fun x => l.length - x) 0 ⟨rfl, rfl, rfl, rfl, trivial⟩ ⟨by omega, by rw [lowTo_zero]; exact ho, hf1⟩ ?_
  rintro i wr ρ ⟨hi, ho, hfr⟩
  refine sgo ?_
  (show WC _ _ _ _ _ _ _; first | refine WC_dec rfl (fun hc => ?_) (fun hc => ?_) | refine WC_cond rfl (fun hc => ?_) (fun hc => ?_))
  · have hil : i < l.length := by omega
    have hll := lowTo_len l i
    have hld : (bs (lowTo l i))[i]? = some (byt (at0 l i)) := by
      rw [bs_get (by omega)]
      exact congrArg (fun n : Nat => some (byt n)) (lowTo_at l i)
    have h256 := at_lt l i
    have hup := lowTo_succ l i hil
    have hkp := lowTo_keep l i hil
    refine sgo ?_
    refine wl ?_ (y_load (i := i) rfl ho.sg hld)
    generalize at0 l i = a at *
    refine sgo ?_
    refine wlg ?_ rfl rfl (fun hh => y_load (i := i) (evG hh) ho.sg hld)
    refine sgo ?_
    (show WC _ _ _ _ _ _ _; first | refine WC_dec rfl (fun hc => ?_) (fun hc => ?_) | refine WC_cond rfl (fun hc => ?_) (fun hc => ?_))
    · simp only [pkb_and, Bool.and_eq_true, decide_eq_true_eq] at hc
      have h65 : 65 ≤ a ∧ a ≤ 90 := by omega
      rw [lowN, show upperR a = true from by simp [upperR, h65], if_pos rfl] at hup
      refine sgo ?_
      refine wl ?_ (y_load (i := i) rfl ho.sg hld)
      refine sgo ?_
      refine wlstoreb (v := a + 32) rfl (congrArg byt (by omega)) ho (by omega) (by omega) fun w2 ho2 hl2 => ?_
      have hfr2 := hfr.step hl2 (by intro x hx; simp only [List.mem_singleton] at hx; subst hx; exact hb1)
      refine sgo ?_
      exact ⟨i + 1, ⟨rfl, rfl, rfl, rfl, trivial⟩, ⟨by omega, by rw [hup]; exact ho2, hfr2⟩, by omega⟩
    · simp only [pkb_and, Bool.and_eq_false_iff, decide_eq_false_iff_not] at hc
      have h65 : ¬ (65 ≤ a ∧ a ≤ 90) := by omega
      replace hkp := hkp (by simp only [upperR, ← Bool.decide_and]; exact decide_eq_false h65)
      refine sgo ?_
      exact ⟨i + 1, ⟨rfl, rfl, rfl, rfl, trivial⟩, ⟨by omega, by rw [hkp]; exact ho, hfr⟩, by omega⟩
  · obtain rfl : i = l.length := by omega
    have hll := lowTo_len l l.length
    rw [lowTo_all] at ho hll
    refine sgo ?_
    refine wl ?_ (y_b2s (s := lowR l) (by rw [hll]; rfl) ho.sg)
    refine sgo ?_
    (first | refine fp1 (.inl rfl) rfl rfl ?_ | refine fp2 (.inl rfl) rfl rfl rfl ?_ | refine fp3 (.inl rfl) rfl rfl rfl rfl ?_ | refine fp0 (.inr rfl) rfl ?_ | refine fp0 (.inl rfl) rfl ?_ | refine fp1 (.inr rfl) rfl rfl ?_); refine ⟨?_, by (first | exact Frm.refl _ | assumption | (refine Frm.trans ?_ (by assumption); first | exact Frm.refl _ | assumption))⟩; (try simp only [realB, rv_true, Nat.reduceBEq, cond_true, cond_false, entG, real_lif, updGL])
def slashB (c : Nat) : Bool := decide (c = 47) || decide (c = 92)
theorem slash_ok (c : Nat) (w : World) : PureC Tryd.prog 36 #[byt c] w (.bool (slashB c)) := by
  refine enter (l := [byt c]) Tryd.func36 rfl Tryd.ntmps36 (by kernel_rfl) rfl ?_
  refine sgo ?_
  (first | refine fp1 (.inl rfl) rfl rfl ?_ | refine fp2 (.inl rfl) rfl rfl rfl ?_ | refine fp3 (.inl rfl) rfl rfl rfl rfl ?_ | refine fp0 (.inr rfl) rfl ?_ | refine fp0 (.inl rfl) rfl ?_ | refine fp1 (.inr rfl) rfl rfl ?_); refine ⟨?_, by (first | exact Frm.refl _ | assumption | (refine Frm.trans ?_ (by assumption); first | exact Frm.refl _ | assumption))⟩; (try simp only [realB, rv_true, Nat.reduceBEq, cond_true, cond_false, entG, real_lif, updGL])
  refine congrArg Value.bool ?_
  unfold slashB
  rw [Bool.eq_iff_iff]
  simp only [pkb_or, Bool.or_eq_true, decide_eq_true_eq]
  omega
theorem slash12_ok (c : Nat) (w : World) : PureC Tryd.prog 37 #[byt c] w (.bool (slashB c)) := by
  refine enter (l := [byt c]) Tryd.func37 rfl Tryd.ntmps37 (by kernel_rfl) rfl ?_
  refine sgo ?_
  (first | refine fp1 (.inl rfl) rfl rfl ?_ | refine fp2 (.inl rfl) rfl rfl rfl ?_ | refine fp3 (.inl rfl) rfl rfl rfl rfl ?_ | refine fp0 (.inr rfl) rfl ?_ | refine fp0 (.inl rfl) rfl ?_ | refine fp1 (.inr rfl) rfl rfl ?_); refine ⟨?_, by (first | exact Frm.refl _ | assumption | (refine Frm.trans ?_ (by assumption); first | exact Frm.refl _ | assumption))⟩; (try simp only [realB, rv_true, Nat.reduceBEq, cond_true, cond_false, entG, real_lif, updGL])
  refine congrArg Value.bool ?_
  unfold slashB
  rw [Bool.eq_iff_iff]
  simp only [pkb_or, Bool.or_eq_true, decide_eq_true_eq]
  omega
theorem inner_ok (c : Nat) (hn : c < 256) (w : World) : PureC Tryd.prog 39 #[byt c] w (.bool (schB c)) := by
  refine enter (l := [byt c]) Tryd.func39 rfl Tryd.ntmps39 (by kernel_rfl) rfl ?_
  refine sgo ?_
  refine wlpure (letter4_ok c _) fun w1 hf1 => ?_
  refine sgo ?_
  refine wlcallgp (vals := [i32 c]) (fun _ => digit4_ok c _) fun w2 hf2 => ?_
  have hf := hf1.trans hf2
  refine sgo ?_
  (first | refine fp1 (.inl rfl) rfl rfl ?_ | refine fp2 (.inl rfl) rfl rfl rfl ?_ | refine fp3 (.inl rfl) rfl rfl rfl rfl ?_ | refine fp0 (.inr rfl) rfl ?_ | refine fp0 (.inl rfl) rfl ?_ | refine fp1 (.inr rfl) rfl rfl ?_); refine ⟨?_, by (first | exact Frm.refl _ | assumption | (refine Frm.trans ?_ (by assumption); first | exact Frm.refl _ | assumption))⟩; (try simp only [realB, rv_true, Nat.reduceBEq, cond_true, cond_false, entG, real_lif, updGL])
  refine congrArg Value.bool ?_
  unfold schB
  simp only [pkb_or]
  rw [Bool.eq_iff_iff]
  cases letterR c <;> cases digitR c <;> simp only [Bool.or_eq_true, decide_eq_true_eq, Bool.or_true, Bool.true_or, Bool.or_false, Bool.false_or] <;> omega
def colonR (s : List UInt8) : Int := if (schemeR s).2 then (schemeR s).1 else -1
theorem schF_false : ∀ (l : List UInt8) (i : Nat), (schF l i).2 = false → (schF l i).1 = 0
  | [], i, _ => rfl
  | c :: t, i, h => by
    simp only [schF] at h ⊢
    split
    · rename_i h1; rw [if_pos h1] at h; cases h
    · rename_i h1
      rw [if_neg h1] at h
      split
      · rename_i h2; rw [if_pos h2] at h; exact schF_false t (i + 1) h
      · rfl
theorem schemeR_false (l : List UInt8) (h : (schemeR l).2 = false) : (schemeR l).1 = 0 := by
  unfold schemeR at h ⊢
  split
  · rfl
  · rename_i h1; rw [if_neg h1] at h; exact schF_false _ _ h
theorem letter_schB {c : Nat} (h : letterR c = true) : schB c = true ∧ c ≠ 58 := by
  refine ⟨by simp [schB, h], ?_⟩
  rintro rfl
  revert h
  decide
set_option maxHeartbeats 1000000 in
theorem colon_ok (l : List UInt8) (hb : l.length ≤ 4611686018427387904) (w : World) : PureC Tryd.prog 33 #[str l] w (int (colonR l)) := by
  have h256 := at_lt l 0
  refine enter (l := [str l]) Tryd.func33 rfl Tryd.ntmps33 (by kernel_rfl) rfl ?_
  cases l with
  | nil =>
    refine sgo ?_
    refine wlcallgp (b := true) (c := true) (want := false) (v := .bool false) (vals := [i32 0]) (fun hh => absurd hh (by decide)) (fun w1 hf1 => ?_) (hj := rfl) (hσ := rfl) (ha := fun hh => absurd hh (by decide))
    refine sgo ?_
    (first | refine fp1 (.inl rfl) rfl rfl ?_ | refine fp2 (.inl rfl) rfl rfl rfl ?_ | refine fp3 (.inl rfl) rfl rfl rfl rfl ?_ | refine fp0 (.inr rfl) rfl ?_ | refine fp0 (.inl rfl) rfl ?_ | refine fp1 (.inr rfl) rfl rfl ?_); refine ⟨?_, by (first | exact Frm.refl _ | assumption | (refine Frm.trans ?_ (by assumption); first | exact Frm.refl _ | assumption))⟩; (try simp only [realB, rv_true, Nat.reduceBEq, cond_true, cond_false, entG, real_lif, updGL])
    rfl
  | cons c0 t0 =>
  generalize hl : c0 :: t0 = l at *
  have h0 : 0 < l.length := by rw [← hl]; simp
  have hne : l ≠ [] := by rw [← hl]; simp
  clear hl c0 t0
  refine sgo ?_
  refine wlcallgp (vals := [i32 (at0 l 0)]) (fun _ => letter4_ok (at0 l 0) _) fun w1 hf1 => ?_
  refine sgo ?_
  (show WC _ _ _ _ _ _ _; first | refine WC_dec rfl (fun hc => ?_) (fun hc => ?_) | refine WC_cond rfl (fun hc => ?_) (fun hc => ?_))
  · have hlt : letterR (at0 l 0) = false := by
      simp only [pkb_or, hne, decide_false, Bool.false_or, Bool.not_eq_true'] at hc
      exact hc
    have e0 : schemeR l = (0, false) := if_pos (Or.inr hlt)
    have e : colonR l = -1 := by unfold colonR; rw [e0]; rfl
    refine sgo ?_
    (first | refine fp1 (.inl rfl) rfl rfl ?_ | refine fp2 (.inl rfl) rfl rfl rfl ?_ | refine fp3 (.inl rfl) rfl rfl rfl rfl ?_ | refine fp0 (.inr rfl) rfl ?_ | refine fp0 (.inl rfl) rfl ?_ | refine fp1 (.inr rfl) rfl rfl ?_); refine ⟨?_, by (first | exact Frm.refl _ | assumption | (refine Frm.trans ?_ (by assumption); first | exact Frm.refl _ | assumption))⟩; (try simp only [realB, rv_true, Nat.reduceBEq, cond_true, cond_false, entG, real_lif, updGL])
    rw [e]
  · have hlt : letterR (at0 l 0) = true := by
      simp only [pkb_or, hne, decide_false, Bool.false_or, Bool.not_eq_false'] at hc
      exact hc
    clear hc
    have hsch : schemeR l = schF (l.drop 1) 1 := by unfold schemeR; rw [if_neg (by rw [hlt]; simp [hne])]
    obtain ⟨hb0, h58⟩ := letter_schB hlt
    refine sgo ?_
    refine wcloop (X := Nat) (fun i => [(0, str l), (14, int l.length), (15, int i)])
      (fun i wr => i ≤ l.length ∧ (i ≠ 0 → schF (l.drop i) i = schemeR l) ∧ Frm w wr) (fun i => l.length - i) 0 ⟨rfl, rfl, rfl, trivial⟩ ⟨by omega, fun h => absurd rfl h, hf1⟩ ?_
    rintro i wr ρ ⟨hi, hsc, hfr⟩
    refine sgo ?_
    (show WC _ _ _ _ _ _ _; first | refine WC_dec rfl (fun hc => ?_) (fun hc => ?_) | refine WC_cond rfl (fun hc => ?_) (fun hc => ?_))
    · have hil : i < l.length := by omega
      clear hc
      have hat := schF_at l i hil
      have h2 := at_lt l i
      refine sgo ?_
      (show WC _ _ _ _ _ _ _; first | refine WC_dec rfl (fun hc => ?_) (fun hc => ?_) | refine WC_cond rfl (fun hc => ?_) (fun hc => ?_))
      · have h58' : at0 l i = 58 := by have : ((at0 l i : Nat) : Int) = 58 := hc; omega
        have hi0 : i ≠ 0 := by rintro rfl; exact h58 h58'
        have e : colonR l = i := by unfold colonR; rw [← hsc hi0, hat, if_pos h58']; rfl
        refine sgo ?_
        (first | refine fp1 (.inl rfl) rfl rfl ?_ | refine fp2 (.inl rfl) rfl rfl rfl ?_ | refine fp3 (.inl rfl) rfl rfl rfl rfl ?_ | refine fp0 (.inr rfl) rfl ?_ | refine fp0 (.inl rfl) rfl ?_ | refine fp1 (.inr rfl) rfl rfl ?_); refine ⟨?_, by (first | exact Frm.refl _ | assumption | (refine Frm.trans ?_ (by assumption); first | exact Frm.refl _ | assumption))⟩; (try simp only [realB, rv_true, Nat.reduceBEq, cond_true, cond_false, entG, real_lif, updGL])
        rw [e]
      · have h58' : ¬ at0 l i = 58 := fun h => hc (by show ((at0 l i : Nat) : Int) = 58; omega)
        clear hc
        rw [if_neg h58'] at hat
        refine sgo ?_
        refine wlpure (inner_ok (at0 l i) h2 _) fun w2 hf2 => ?_
        have hfr2 := hfr.trans hf2
        refine sgo ?_
        (show WC _ _ _ _ _ _ _; first | refine WC_dec rfl (fun hc => ?_) (fun hc => ?_) | refine WC_cond rfl (fun hc => ?_) (fun hc => ?_))
        · have hb' : schB (at0 l i) = false := by simpa using hc
          have hi0 : i ≠ 0 := by rintro rfl; rw [hb0] at hb'; cases hb'
          have e : colonR l = -1 := by unfold colonR; rw [← hsc hi0, hat, hb']; rfl
          refine sgo ?_
          (first | refine fp1 (.inl rfl) rfl rfl ?_ | refine fp2 (.inl rfl) rfl rfl rfl ?_ | refine fp3 (.inl rfl) rfl rfl rfl rfl ?_ | refine fp0 (.inr rfl) rfl ?_ | refine fp0 (.inl rfl) rfl ?_ | refine fp1 (.inr rfl) rfl rfl ?_); refine ⟨?_, by (first | exact Frm.refl _ | assumption | (refine Frm.trans ?_ (by assumption); first | exact Frm.refl _ | assumption))⟩; (try simp only [realB, rv_true, Nat.reduceBEq, cond_true, cond_false, entG, real_lif, updGL])
          rw [e]
        · have hb' : schB (at0 l i) = true := by simpa using hc
          clear hc
          rw [hb', if_pos rfl] at hat
          refine sgo ?_
          refine ⟨i + 1, ⟨rfl, rfl, rfl, trivial⟩, ⟨by omega, fun _ => ?_, hfr2⟩, by omega⟩
          by_cases hi0 : i = 0
          · subst hi0; exact hsch.symm
          · rw [← hat]; exact hsc hi0
    · obtain rfl : i = l.length := by omega
      have e : colonR l = -1 := by
        unfold colonR
        rw [← hsc (by omega), List.drop_eq_nil_of_le (Nat.le_refl _)]
        rfl
      refine sgo ?_
      (first | refine fp1 (.inl rfl) rfl rfl ?_ | refine fp2 (.inl rfl) rfl rfl rfl ?_ | refine fp3 (.inl rfl) rfl rfl rfl rfl ?_ | refine fp0 (.inr rfl) rfl ?_ | refine fp0 (.inl rfl) rfl ?_ | refine fp1 (.inr rfl) rfl rfl ?_); refine ⟨?_, by (first | exact Frm.refl _ | assumption | (refine Frm.trans ?_ (by assumption); first | exact Frm.refl _ | assumption))⟩; (try simp only [realB, rv_true, Nat.reduceBEq, cond_true, cond_false, entG, real_lif, updGL])
      rw [e]
set_option maxHeartbeats 2000000 in
theorem refStrip_ok (l : List UInt8) (hb : l.length ≤ 1073741824) (w : World) : PureC Tryd.prog 10 #[str l] w (str (stripR l)) := by
  rw [← bstrip_mend]
  refine enter (l := [str l]) Tryd.func10 rfl Tryd.ntmps10 (by kernel_rfl) rfl ?_
  refine sgo ?_
  refine wlpure (refMend_ok l hb _) fun w1 hf1 => ?_
  have hml := mendR_len l
  generalize mendR l = m at *
  unfold bstrip
  refine sgo ?_
  refine wcloop (X := List UInt8) (fun v => [(0, str v)]) (fun v wr => v.length ≤ m.length ∧ bcutL v = bcutL m ∧ Frm w wr) (fun v => v.length) m ⟨rfl, trivial⟩ ⟨Nat.le_refl _, rfl, hf1⟩ ?_
  rintro v wr ρ ⟨hvl, hvc, hfr⟩
  refine sgo ?_
  (show WC _ _ _ _ _ _ _; first | refine WC_dec rfl (fun hc => ?_) (fun hc => ?_) | refine WC_cond rfl (fun hc => ?_) (fun hc => ?_))
  · simp only [pkb_and, Bool.and_eq_true, decide_eq_true_eq] at hc
    have h0 : 0 < v.length := by omega
    have h32 : at0 v 0 ≤ 32 := by have : ((at0 v 0 : Nat) : Int) ≤ 32 := hc.2; omega
    have hat := bcutL_at v h0
    rw [if_pos h32] at hat
    refine sgo ?_
    exact ⟨v.drop 1, ⟨rfl, trivial⟩, ⟨by simp; omega, by rw [← hat]; exact hvc, hfr⟩, by simp; omega⟩
  have hv : bcutL v = v := by
    rcases Nat.eq_zero_or_pos v.length with h | h
    · rw [List.eq_nil_of_length_eq_zero h]; rfl
    · rw [bcutL_at v h, if_neg]
      intro h2
      have h3 : ((at0 v 0 : Nat) : Int) ≤ 32 := by omega
      have h4 : (0 : Int) < v.length := by omega
      simp only [pkb_and, h4, decide_true, Bool.true_and, decide_eq_false_iff_not] at hc
      exact hc h3
  clear hc
  rw [← hvc, hv]
  have hvm : v.length ≤ 4294967296 := by omega
  clear hvc hv hvl hml hf1
  refine sgo ?_
  refine wcloop (X := List UInt8) (fun u => [(0, str u)]) (fun u wr => u.length ≤ v.length ∧ bcutT u = bcutT v ∧ Frm w wr) (fun u => u.length) v ⟨rfl, trivial⟩ ⟨Nat.le_refl _, rfl, hfr⟩ ?_
  clear hfr
  rintro u w2 ρ2 ⟨hul, huc, hfr⟩
  have e : ((u.length : Int) - 1).toNat = u.length - 1 := by omega
  refine sgo ?_
  (show WC _ _ _ _ _ _ _; first | refine WC_dec rfl (fun hc => ?_) (fun hc => ?_) | refine WC_cond rfl (fun hc => ?_) (fun hc => ?_))
  · simp only [pkb_and, Bool.and_eq_true, decide_eq_true_eq] at hc
    have h0 : 0 < u.length := by omega
    have h32 : at0 u (u.length - 1) ≤ 32 := by have h2 := hc.2; rw [e] at h2; have : ((at0 u (u.length - 1) : Nat) : Int) ≤ 32 := h2; omega
    have hat := bcutT_at u (u.length - 1) (by omega)
    rw [if_pos h32, Nat.sub_add_cancel h0, List.take_length] at hat
    refine sgo ?_
    exact ⟨u.take ((u.length : Int) - 1).toNat, ⟨rfl, trivial⟩, ⟨by simp; omega, by rw [e, ← hat]; exact huc, hfr⟩, by simp; omega⟩
  have hu : bcutT u = u := by
    rcases Nat.eq_zero_or_pos u.length with h | h
    · rw [List.eq_nil_of_length_eq_zero h]; rfl
    · have hat := bcutT_at u (u.length - 1) (by omega)
      rw [Nat.sub_add_cancel h, List.take_length] at hat
      rw [hat, if_neg]
      intro h2
      have h3 : ((at0 u (u.length - 1) : Nat) : Int) ≤ 32 := by omega
      have h4 : (0 : Int) < u.length := by omega
      simp only [pkb_and, h4, decide_true, Bool.true_and, decide_eq_false_iff_not, e] at hc
      exact hc h3
  clear hc
  rw [← huc, hu]
  have hum : u.length ≤ 4294967296 := by omega
  clear huc hu hul hvm e
  refine sgo ?_
  refine wcloop (X := Nat × Option Addr × Nat) (fun x => [(0, str u), (3, .slice x.2.1 (bkeep (u.take x.1)).length x.2.2), (34, int u.length), (35, int x.1)])
    (fun x wr => x.1 ≤ u.length ∧ Row wr 1 x.2.1 (bkeep (u.take x.1)).length x.2.2 (bs (bkeep (u.take x.1))) ∧ (∀ y ∈ rb x.2.1, w.heap.size ≤ y) ∧ Frm w wr) (fun x => u.length - x.1) (0, none, 0) ⟨rfl, rfl, rfl, rfl, trivial⟩ ⟨by omega, Row.nil _ 1, by simp [rb], hfr⟩ ?_
  clear hfr
  rintro ⟨i, q, cc⟩ w3 ρ3 ⟨hi, hrow, hlow, hfr⟩
  dsimp only at hi hrow hlow ⊢
  have hbl : (bkeep (u.take i)).length ≤ u.length := Nat.le_trans (List.length_filter_le _ _) (by rw [List.length_take]; omega)
  refine sgo ?_
  (show WC _ _ _ _ _ _ _; first | refine WC_dec rfl (fun hc => ?_) (fun hc => ?_) | refine WC_cond rfl (fun hc => ?_) (fun hc => ?_))
  · have hil : i < u.length := by omega
    clear hc
    have htk : bkeep (u.take (i + 1)) = bkeep (u.take i) ++ (if at0 u i ≠ 9 ∧ at0 u i ≠ 10 ∧ at0 u i ≠ 13 then [u[i]] else []) := by
      have ea : at0 u i = u[i].toNat := by simp [at0, hil]
      rw [List.take_add_one, List.getElem?_eq_getElem hil, ea]
      unfold bkeep
      rw [List.filter_append]
      by_cases h : u[i].toNat ≠ 9 ∧ u[i].toNat ≠ 10 ∧ u[i].toNat ≠ 13
      · rw [if_pos h, Option.toList, List.filter_cons_of_pos (by simpa using h)]; rfl
      · rw [if_neg h, Option.toList, List.filter_cons_of_neg (by simpa using h)]; rfl
    have eb : byt (at0 u i) = byt u[i].toNat := by simp [at0, hil]
    refine sgo ?_
    (show WC _ _ _ _ _ _ _; first | refine WC_dec rfl (fun hc => ?_) (fun hc => ?_) | refine WC_cond rfl (fun hc => ?_) (fun hc => ?_))
    · have hk : at0 u i ≠ 9 ∧ at0 u i ≠ 10 ∧ at0 u i ≠ 13 := by
        simp only [pkb_and, Bool.and_eq_true, decide_eq_true_eq] at hc
        obtain ⟨⟨h1, h2⟩, h3⟩ := hc
        refine ⟨?_, ?_, ?_⟩
        · intro h; apply h1; show ((at0 u i : Nat) : Int) = 9; omega
        · intro h; apply h2; show ((at0 u i : Nat) : Int) = 10; omega
        · intro h; apply h3; show ((at0 u i : Nat) : Int) = 13; omega
      rw [if_pos hk] at htk
      clear hc
      refine sgo ?_
      refine wlb1_int (fun b10 w10 hb10 o10 hf10 => ?_)
      have hrow10 := hrow.frm hf10
      refine sgo ?_
      refine wlapp hrow10 o10.sg (fun q11 c11 w11 hr11 hl11 => ?_) (hl := rfl)
      have hr11' : Row w11 1 q11 (bkeep (u.take (i + 1))).length c11 (bs (bkeep (u.take (i + 1)))) := by
        rw [htk, ← bs_app]
        have : bs [u[i]] = [byt (at0 u i)] := by rw [eb]; rfl
        rw [this, List.length_append]
        exact hr11
      have hfr11 : Frm w w11 := (hfr.trans hf10).step hl11.1 hlow
      refine sgo ?_
      exact ⟨(i + 1, q11, c11), ⟨rfl, by rw [htk, List.length_append]; rfl, rfl, rfl, trivial⟩, ⟨by omega, hr11', hl11.fresh (hfr.trans hf10) hlow, hfr11⟩, by omega⟩
    · have hk : ¬ (at0 u i ≠ 9 ∧ at0 u i ≠ 10 ∧ at0 u i ≠ 13) := by
        rintro ⟨h1, h2, h3⟩
        have g1 : ¬ ((at0 u i : Nat) : Int) = 9 := by omega
        have g2 : ¬ ((at0 u i : Nat) : Int) = 10 := by omega
        have g3 : ¬ ((at0 u i : Nat) : Int) = 13 := by omega
        simp only [at0] at g1 g2 g3
        simp [pkb_and, g1, g2, g3] at hc
      rw [if_neg hk, List.append_nil] at htk
      clear hc
      refine sgo ?_
      exact ⟨(i + 1, q, cc), ⟨rfl, by rw [htk]; rfl, rfl, rfl, trivial⟩, ⟨by omega, by dsimp only; rw [htk]; exact hrow, hlow, hfr⟩, by omega⟩
  · obtain rfl : i = u.length := by omega
    rw [List.take_length] at hrow ⊢
    refine sgo ?_
    refine wl ?_ (y_b2s (s := bkeep u) rfl hrow.sg)
    refine sgo ?_
    (first | refine fp1 (.inl rfl) rfl rfl ?_ | refine fp2 (.inl rfl) rfl rfl rfl ?_ | refine fp3 (.inl rfl) rfl rfl rfl rfl ?_ | refine fp0 (.inr rfl) rfl ?_ | refine fp0 (.inl rfl) rfl ?_ | refine fp1 (.inr rfl) rfl rfl ?_); refine ⟨?_, by (first | exact Frm.refl _ | assumption | (refine Frm.trans ?_ (by assumption); first | exact Frm.refl _ | assumption))⟩; (try simp only [realB, rv_true, Nat.reduceBEq, cond_true, cond_false, entG, real_lif, updGL])
end Go.Proofs.YtffaoehhhdcjjaaDoor

/-
  Packages link and sieveref12: Scheme, Kind.
-/
set_option linter.unusedSimpArgs false
set_option linter.unusedVariables false
set_option linter.unnecessarySimpa false
namespace Go.Proofs.YtffaoehhhdcjjaaDoor
open Go Go.Sv Go.RowKit
set_option maxHeartbeats 1000000 in
theorem refScheme_ok (l : List UInt8) (hb : l.length ≤ 1073741824) (w : World) : PureC Tryd.prog 8 #[str l] w (.tuple #[str (lowR ((stripR l).take (schemeR (stripR l)).1)), .bool (schemeR (stripR l)).2]) := by
  refine enter (l := [str l]) Tryd.func8 rfl Tryd.ntmps8 (by kernel_rfl) rfl ?_
  refine sgo ?_
  refine wlpure (refStrip_ok l hb _) fun w1 hf1 => ?_
  have hl := stripR_len l
  generalize stripR l = s at *
  refine sgo ?_
  refine wlpure (colon_ok s (by omega) _) fun w2 hf2 => ?_
  have hf := hf1.trans hf2
  have hle := schemeR_le s
  have hfa := schemeR_false s
  unfold colonR
  generalize schemeR s = m at *
  obtain ⟨n, ok⟩ := m
  dsimp only at hle hfa ⊢
  cases ok with
  | false =>
    have hn := hfa rfl
    subst hn
    rw [if_neg Bool.false_ne_true]
    refine sgo ?_
    (first | refine fp1 (.inl rfl) rfl rfl ?_ | refine fp2 (.inl rfl) rfl rfl rfl ?_ | refine fp3 (.inl rfl) rfl rfl rfl rfl ?_ | refine fp0 (.inr rfl) rfl ?_ | refine fp0 (.inl rfl) rfl ?_ | refine fp1 (.inr rfl) rfl rfl ?_); refine ⟨?_, by (first | exact Frm.refl _ | assumption | (refine Frm.trans ?_ (by assumption); first | exact Frm.refl _ | assumption))⟩; (try simp only [realB, rv_true, Nat.reduceBEq, cond_true, cond_false, entG, real_lif, updGL])
    rfl
  | true =>
    rw [if_pos rfl]
    refine sgo ?_
    (show WC _ _ _ _ _ _ _; first | refine WC_dec rfl (fun hc => ?_) (fun hc => ?_) | refine WC_cond rfl (fun hc => ?_) (fun hc => ?_))
    · omega
    · refine sgo ?_
      refine wlpure (lower4_ok (s.take n) (by simp; omega) _) fun w3 hf3 => ?_
      have hf' := hf.trans hf3
      refine sgo ?_
      (first | refine fp1 (.inl rfl) rfl rfl ?_ | refine fp2 (.inl rfl) rfl rfl rfl ?_ | refine fp3 (.inl rfl) rfl rfl rfl rfl ?_ | refine fp0 (.inr rfl) rfl ?_ | refine fp0 (.inl rfl) rfl ?_ | refine fp1 (.inr rfl) rfl rfl ?_); refine ⟨?_, by (first | exact Frm.refl _ | assumption | (refine Frm.trans ?_ (by assumption); first | exact Frm.refl _ | assumption))⟩; (try simp only [realB, rv_true, Nat.reduceBEq, cond_true, cond_false, entG, real_lif, updGL])
def kindR (s : List UInt8) : Int :=
  if (schemeR s).2 = true then 1 else if s = [] then 0 else if (slashB (at0 s 0) && decide (1 < s.length) && slashB (at0 s 1)) = true then 2
  else if slashB (at0 s 0) = true then 3 else if at0 s 0 = 63 then 4 else if at0 s 0 = 35 then 5 else 6
set_option maxHeartbeats 1000000 in
theorem kind_ok (l : List UInt8) (hb : l.length ≤ 1073741824) (w : World) : PureC Tryd.prog 11 #[str l] w (int (kindR (stripR l))) := by
  refine enter (l := [str l]) Tryd.func11 rfl Tryd.ntmps11 (by kernel_rfl) rfl ?_
  refine sgo ?_
  refine wlpure (strip_ok l hb _) fun w1 hf1 => ?_
  have hl := stripR_len l
  generalize stripR l = s at *
  obtain ⟨K, e⟩ : ∃ K, K = kindR s := ⟨_, rfl⟩
  rw [← e]
  unfold kindR at e
  refine sgo ?_
  refine wlpure (scheme_ok s (by omega) _) fun w2 hf2 => ?_
  have hf := hf1.trans hf2
  generalize (schemeR s).1 = n at *
  cases hok : (schemeR s).2 with
  | true =>
    rw [hok] at e
    rw [if_pos rfl] at e
    refine sgo ?_
    (first | refine fp1 (.inl rfl) rfl rfl ?_ | refine fp2 (.inl rfl) rfl rfl rfl ?_ | refine fp3 (.inl rfl) rfl rfl rfl rfl ?_ | refine fp0 (.inr rfl) rfl ?_ | refine fp0 (.inl rfl) rfl ?_ | refine fp1 (.inr rfl) rfl rfl ?_); refine ⟨?_, by (first | exact Frm.refl _ | assumption | (refine Frm.trans ?_ (by assumption); first | exact Frm.refl _ | assumption))⟩; (try simp only [realB, rv_true, Nat.reduceBEq, cond_true, cond_false, entG, real_lif, updGL])
    rw [e]
  | false =>
  rw [hok] at e
  simp only [Bool.false_eq_true, if_false] at e
  refine sgo ?_
  (show WC _ _ _ _ _ _ _; first | refine WC_dec rfl (fun hc => ?_) (fun hc => ?_) | refine WC_cond rfl (fun hc => ?_) (fun hc => ?_))
  · rw [if_pos hc] at e
    refine sgo ?_
    (first | refine fp1 (.inl rfl) rfl rfl ?_ | refine fp2 (.inl rfl) rfl rfl rfl ?_ | refine fp3 (.inl rfl) rfl rfl rfl rfl ?_ | refine fp0 (.inr rfl) rfl ?_ | refine fp0 (.inl rfl) rfl ?_ | refine fp1 (.inr rfl) rfl rfl ?_); refine ⟨?_, by (first | exact Frm.refl _ | assumption | (refine Frm.trans ?_ (by assumption); first | exact Frm.refl _ | assumption))⟩; (try simp only [realB, rv_true, Nat.reduceBEq, cond_true, cond_false, entG, real_lif, updGL])
    rw [e]
  have hne : ¬ s = [] := hc
  clear hc
  rw [if_neg hne] at e
  have h0 : 0 < s.length := List.length_pos_iff.2 hne
  refine sgo ?_
  refine wlpure (slash_ok (at0 s 0) _) fun w3 hf3 => ?_
  refine sgo ?_
  refine wlcallgp (vals := [byt (at0 s 1)]) (fun _ => slash_ok (at0 s 1) _) fun w4 hf4 => ?_
  have hf' := (hf.trans hf3).trans hf4
  refine sgo ?_
  (show WC _ _ _ _ _ _ _; first | refine WC_dec rfl (fun hc => ?_) (fun hc => ?_) | refine WC_cond rfl (fun hc => ?_) (fun hc => ?_))
  · have hc' : (slashB (at0 s 0) && decide (1 < s.length) && slashB (at0 s 1)) = true := by
      simp only [pkb_and, Bool.and_eq_true, decide_eq_true_eq] at hc ⊢
      obtain ⟨⟨a, b⟩, c⟩ := hc
      refine ⟨⟨?_, ?_⟩, c⟩ <;> first | assumption | omega
    rw [if_pos hc'] at e
    refine sgo ?_
    (first | refine fp1 (.inl rfl) rfl rfl ?_ | refine fp2 (.inl rfl) rfl rfl rfl ?_ | refine fp3 (.inl rfl) rfl rfl rfl rfl ?_ | refine fp0 (.inr rfl) rfl ?_ | refine fp0 (.inl rfl) rfl ?_ | refine fp1 (.inr rfl) rfl rfl ?_); refine ⟨?_, by (first | exact Frm.refl _ | assumption | (refine Frm.trans ?_ (by assumption); first | exact Frm.refl _ | assumption))⟩; (try simp only [realB, rv_true, Nat.reduceBEq, cond_true, cond_false, entG, real_lif, updGL])
    rw [e]
  have hc' : ¬ (slashB (at0 s 0) && decide (1 < s.length) && slashB (at0 s 1)) = true := by
    intro h
    simp only [Bool.and_eq_true, decide_eq_true_eq] at h
    obtain ⟨⟨h1, h2⟩, h3⟩ := h
    have h4 : (1 : Int) < s.length := by omega
    rw [h1, h3] at hc
    simp [pkb_and, h4] at hc
  clear hc
  rw [if_neg hc'] at e
  refine sgo ?_
  refine wlpure (slash_ok (at0 s 0) _) fun w5 hf5 => ?_
  replace hf' := hf'.trans hf5
  refine sgo ?_
  (show WC _ _ _ _ _ _ _; first | refine WC_dec rfl (fun hc => ?_) (fun hc => ?_) | refine WC_cond rfl (fun hc => ?_) (fun hc => ?_))
  · rw [if_pos hc] at e
    refine sgo ?_
    (first | refine fp1 (.inl rfl) rfl rfl ?_ | refine fp2 (.inl rfl) rfl rfl rfl ?_ | refine fp3 (.inl rfl) rfl rfl rfl rfl ?_ | refine fp0 (.inr rfl) rfl ?_ | refine fp0 (.inl rfl) rfl ?_ | refine fp1 (.inr rfl) rfl rfl ?_); refine ⟨?_, by (first | exact Frm.refl _ | assumption | (refine Frm.trans ?_ (by assumption); first | exact Frm.refl _ | assumption))⟩; (try simp only [realB, rv_true, Nat.reduceBEq, cond_true, cond_false, entG, real_lif, updGL])
    rw [e]
  rw [if_neg (by rw [hc]; decide)] at e
  clear hc
  refine sgo ?_
  (show WC _ _ _ _ _ _ _; first | refine WC_dec rfl (fun hc => ?_) (fun hc => ?_) | refine WC_cond rfl (fun hc => ?_) (fun hc => ?_))
  · rw [if_pos (by have : ((at0 s 0 : Nat) : Int) = 63 := hc; omega)] at e
    refine sgo ?_
    (first | refine fp1 (.inl rfl) rfl rfl ?_ | refine fp2 (.inl rfl) rfl rfl rfl ?_ | refine fp3 (.inl rfl) rfl rfl rfl rfl ?_ | refine fp0 (.inr rfl) rfl ?_ | refine fp0 (.inl rfl) rfl ?_ | refine fp1 (.inr rfl) rfl rfl ?_); refine ⟨?_, by (first | exact Frm.refl _ | assumption | (refine Frm.trans ?_ (by assumption); first | exact Frm.refl _ | assumption))⟩; (try simp only [realB, rv_true, Nat.reduceBEq, cond_true, cond_false, entG, real_lif, updGL])
    rw [e]
  rw [if_neg (fun h => hc (by show ((at0 s 0 : Nat) : Int) = 63; omega))] at e
  clear hc
  refine sgo ?_
  (show WC _ _ _ _ _ _ _; first | refine WC_dec rfl (fun hc => ?_) (fun hc => ?_) | refine WC_cond rfl (fun hc => ?_) (fun hc => ?_))
  · rw [if_pos (by have : ((at0 s 0 : Nat) : Int) = 35 := hc; omega)] at e
    refine sgo ?_
    (first | refine fp1 (.inl rfl) rfl rfl ?_ | refine fp2 (.inl rfl) rfl rfl rfl ?_ | refine fp3 (.inl rfl) rfl rfl rfl rfl ?_ | refine fp0 (.inr rfl) rfl ?_ | refine fp0 (.inl rfl) rfl ?_ | refine fp1 (.inr rfl) rfl rfl ?_); refine ⟨?_, by (first | exact Frm.refl _ | assumption | (refine Frm.trans ?_ (by assumption); first | exact Frm.refl _ | assumption))⟩; (try simp only [realB, rv_true, Nat.reduceBEq, cond_true, cond_false, entG, real_lif, updGL])
    rw [e]
  rw [if_neg (fun h => hc (by show ((at0 s 0 : Nat) : Int) = 35; omega))] at e
  clear hc
  refine sgo ?_
  (first | refine fp1 (.inl rfl) rfl rfl ?_ | refine fp2 (.inl rfl) rfl rfl rfl ?_ | refine fp3 (.inl rfl) rfl rfl rfl rfl ?_ | refine fp0 (.inr rfl) rfl ?_ | refine fp0 (.inl rfl) rfl ?_ | refine fp1 (.inr rfl) rfl rfl ?_); refine ⟨?_, by (first | exact Frm.refl _ | assumption | (refine Frm.trans ?_ (by assumption); first | exact Frm.refl _ | assumption))⟩; (try simp only [realB, rv_true, Nat.reduceBEq, cond_true, cond_false, entG, real_lif, updGL])
  rw [e]
set_option maxHeartbeats 1000000 in
theorem refKind_ok (l : List UInt8) (hb : l.length ≤ 1073741824) (w : World) : PureC Tryd.prog 12 #[str l] w (int (kindR (stripR l))) := by
  refine enter (l := [str l]) Tryd.func12 rfl Tryd.ntmps12 (by kernel_rfl) rfl ?_
  refine sgo ?_
  refine wlpure (refStrip_ok l hb _) fun w1 hf1 => ?_
  have hl := stripR_len l
  generalize stripR l = s at *
  obtain ⟨K, e⟩ : ∃ K, K = kindR s := ⟨_, rfl⟩
  rw [← e]
  unfold kindR at e
  refine sgo ?_
  refine wlpure (colon_ok s (by omega) _) fun w2 hf2 => ?_
  have hf := hf1.trans hf2
  unfold colonR
  generalize (schemeR s).1 = n at *
  cases hok : (schemeR s).2 with
  | true =>
    rw [hok] at e
    rw [if_pos rfl] at e
    rw [if_pos rfl]
    have hn : (n : Int) ≥ 0 := by omega
    refine sgo ?_
    (show WC _ _ _ _ _ _ _; first | refine WC_dec rfl (fun hc => ?_) (fun hc => ?_) | refine WC_cond rfl (fun hc => ?_) (fun hc => ?_))
    · refine sgo ?_
      (first | refine fp1 (.inl rfl) rfl rfl ?_ | refine fp2 (.inl rfl) rfl rfl rfl ?_ | refine fp3 (.inl rfl) rfl rfl rfl rfl ?_ | refine fp0 (.inr rfl) rfl ?_ | refine fp0 (.inl rfl) rfl ?_ | refine fp1 (.inr rfl) rfl rfl ?_); refine ⟨?_, by (first | exact Frm.refl _ | assumption | (refine Frm.trans ?_ (by assumption); first | exact Frm.refl _ | assumption))⟩; (try simp only [realB, rv_true, Nat.reduceBEq, cond_true, cond_false, entG, real_lif, updGL])
      rw [e]
    · exact absurd hn hc
  | false =>
  rw [hok] at e
  rw [if_neg Bool.false_ne_true]
  simp only [Bool.false_eq_true, if_false] at e
  refine sgo ?_
  (show WC _ _ _ _ _ _ _; first | refine WC_dec rfl (fun hc => ?_) (fun hc => ?_) | refine WC_cond rfl (fun hc => ?_) (fun hc => ?_))
  · rw [if_pos hc] at e
    refine sgo ?_
    (first | refine fp1 (.inl rfl) rfl rfl ?_ | refine fp2 (.inl rfl) rfl rfl rfl ?_ | refine fp3 (.inl rfl) rfl rfl rfl rfl ?_ | refine fp0 (.inr rfl) rfl ?_ | refine fp0 (.inl rfl) rfl ?_ | refine fp1 (.inr rfl) rfl rfl ?_); refine ⟨?_, by (first | exact Frm.refl _ | assumption | (refine Frm.trans ?_ (by assumption); first | exact Frm.refl _ | assumption))⟩; (try simp only [realB, rv_true, Nat.reduceBEq, cond_true, cond_false, entG, real_lif, updGL])
    rw [e]
  have hne : ¬ s = [] := hc
  clear hc
  rw [if_neg hne] at e
  have h0 : 0 < s.length := List.length_pos_iff.2 hne
  refine sgo ?_
  refine wlcallgp (vals := [byt (at0 s 0)]) (fun _ => slash12_ok (at0 s 0) _) fun w3 hf3 => ?_
  refine sgo ?_
  refine wlcallgp (vals := [byt (at0 s 1)]) (fun _ => slash12_ok (at0 s 1) _) fun w4 hf4 => ?_
  have hf' := (hf.trans hf3).trans hf4
  refine sgo ?_
  (show WC _ _ _ _ _ _ _; first | refine WC_dec rfl (fun hc => ?_) (fun hc => ?_) | refine WC_cond rfl (fun hc => ?_) (fun hc => ?_))
  · have hc' : (slashB (at0 s 0) && decide (1 < s.length) && slashB (at0 s 1)) = true := by
      simp only [pkb_and, Bool.and_eq_true, decide_eq_true_eq] at hc ⊢
      obtain ⟨⟨a, b⟩, c⟩ := hc
      refine ⟨⟨?_, ?_⟩, c⟩ <;> first | assumption | omega
    rw [if_pos hc'] at e
    refine sgo ?_
    (first | refine fp1 (.inl rfl) rfl rfl ?_ | refine fp2 (.inl rfl) rfl rfl rfl ?_ | refine fp3 (.inl rfl) rfl rfl rfl rfl ?_ | refine fp0 (.inr rfl) rfl ?_ | refine fp0 (.inl rfl) rfl ?_ | refine fp1 (.inr rfl) rfl rfl ?_); refine ⟨?_, by (first | exact Frm.refl _ | assumption | (refine Frm.trans ?_ (by assumption); first | exact Frm.refl _ | assumption))⟩; (try simp only [realB, rv_true, Nat.reduceBEq, cond_true, cond_false, entG, real_lif, updGL])
    rw [e]
  have hc' : ¬ (slashB (at0 s 0) && decide (1 < s.length) && slashB (at0 s 1)) = true := by
    intro h
    simp only [Bool.and_eq_true, decide_eq_true_eq] at h
    obtain ⟨⟨h1, h2⟩, h3⟩ := h
    have h4 : (1 : Int) < s.length := by omega
    rw [h1, h3] at hc
    simp [pkb_and, h4] at hc
  clear hc
  rw [if_neg hc'] at e
  refine sgo ?_
  refine wlpure (slash12_ok (at0 s 0) _) fun w5 hf5 => ?_
  replace hf' := hf'.trans hf5
  refine sgo ?_
  (show WC _ _ _ _ _ _ _; first | refine WC_dec rfl (fun hc => ?_) (fun hc => ?_) | refine WC_cond rfl (fun hc => ?_) (fun hc => ?_))
  · rw [if_pos hc] at e
    refine sgo ?_
    (first | refine fp1 (.inl rfl) rfl rfl ?_ | refine fp2 (.inl rfl) rfl rfl rfl ?_ | refine fp3 (.inl rfl) rfl rfl rfl rfl ?_ | refine fp0 (.inr rfl) rfl ?_ | refine fp0 (.inl rfl) rfl ?_ | refine fp1 (.inr rfl) rfl rfl ?_); refine ⟨?_, by (first | exact Frm.refl _ | assumption | (refine Frm.trans ?_ (by assumption); first | exact Frm.refl _ | assumption))⟩; (try simp only [realB, rv_true, Nat.reduceBEq, cond_true, cond_false, entG, real_lif, updGL])
    rw [e]
  rw [if_neg (by rw [hc]; decide)] at e
  clear hc
  refine sgo ?_
  (show WC _ _ _ _ _ _ _; first | refine WC_dec rfl (fun hc => ?_) (fun hc => ?_) | refine WC_cond rfl (fun hc => ?_) (fun hc => ?_))
  · rw [if_pos (by have : ((at0 s 0 : Nat) : Int) = 63 := hc; omega)] at e
    refine sgo ?_
    (first | refine fp1 (.inl rfl) rfl rfl ?_ | refine fp2 (.inl rfl) rfl rfl rfl ?_ | refine fp3 (.inl rfl) rfl rfl rfl rfl ?_ | refine fp0 (.inr rfl) rfl ?_ | refine fp0 (.inl rfl) rfl ?_ | refine fp1 (.inr rfl) rfl rfl ?_); refine ⟨?_, by (first | exact Frm.refl _ | assumption | (refine Frm.trans ?_ (by assumption); first | exact Frm.refl _ | assumption))⟩; (try simp only [realB, rv_true, Nat.reduceBEq, cond_true, cond_false, entG, real_lif, updGL])
    rw [e]
  rw [if_neg (fun h => hc (by show ((at0 s 0 : Nat) : Int) = 63; omega))] at e
  clear hc
  refine sgo ?_
  (show WC _ _ _ _ _ _ _; first | refine WC_dec rfl (fun hc => ?_) (fun hc => ?_) | refine WC_cond rfl (fun hc => ?_) (fun hc => ?_))
  · rw [if_pos (by have : ((at0 s 0 : Nat) : Int) = 35 := hc; omega)] at e
    refine sgo ?_
    (first | refine fp1 (.inl rfl) rfl rfl ?_ | refine fp2 (.inl rfl) rfl rfl rfl ?_ | refine fp3 (.inl rfl) rfl rfl rfl rfl ?_ | refine fp0 (.inr rfl) rfl ?_ | refine fp0 (.inl rfl) rfl ?_ | refine fp1 (.inr rfl) rfl rfl ?_); refine ⟨?_, by (first | exact Frm.refl _ | assumption | (refine Frm.trans ?_ (by assumption); first | exact Frm.refl _ | assumption))⟩; (try simp only [realB, rv_true, Nat.reduceBEq, cond_true, cond_false, entG, real_lif, updGL])
    rw [e]
  rw [if_neg (fun h => hc (by show ((at0 s 0 : Nat) : Int) = 35; omega))] at e
  clear hc
  refine sgo ?_
  (first | refine fp1 (.inl rfl) rfl rfl ?_ | refine fp2 (.inl rfl) rfl rfl rfl ?_ | refine fp3 (.inl rfl) rfl rfl rfl rfl ?_ | refine fp0 (.inr rfl) rfl ?_ | refine fp0 (.inl rfl) rfl ?_ | refine fp1 (.inr rfl) rfl rfl ?_); refine ⟨?_, by (first | exact Frm.refl _ | assumption | (refine Frm.trans ?_ (by assumption); first | exact Frm.refl _ | assumption))⟩; (try simp only [realB, rv_true, Nat.reduceBEq, cond_true, cond_false, entG, real_lif, updGL])
  rw [e]
end Go.Proofs.YtffaoehhhdcjjaaDoor

/-
  Arrays written out; a function's end, where its result lies in a cell.
-/
set_option linter.unusedSimpArgs false
set_option linter.unusedVariables false
set_option linter.unnecessarySimpa false
namespace Go.Sv
open Go Go.RowKit
section
variable {P : Program} {σ : Env} {w : World} {d : Option Tmp} {ty t e : TypeId} {pos : String} {af : Array Edge} {g : Option (Nat × Bool)} {x y : Operand} {v1 v2 v3 v4 v5 z1 z2 z3 z4 z5 zv : Value} {x1 x2 x3 x4 x5 : Operand} {bytes bytes' n i : Nat} {k : IntKind} {v : Value} {cs : Array Value}
theorem y_build5 [hu : Und P t (.array 5 e)] [hi : Inf P e zv 1 bytes] [hj : Inf P t (.agg #[z1, z2, z3, z4, z5]) 5 bytes'] (e1 : evl σ x1 = v1) (e2 : evl σ x2 = v2) (e3 : evl σ x3 = v3) (e4 : evl σ x4 = v4) (e5 : evl σ x5 = v5)
    (h1 : v1.cells = #[v1]) (h2 : v2.cells = #[v2]) (h3 : v3.cells = #[v3]) (h4 : v4.cells = #[v4]) (h5 : v5.cells = #[v5]) :
    Y P σ ⟨d, .build t #[(0, x1), (1, x2), (2, x3), (3, x4), (4, x5)], ty, pos, af, g⟩ w (.agg #[v1, v2, v3, v4, v5]) w := by
  refine Y.val ?_
  have hf : Instr.fill (fun i => some (i * 1, 1)) #[z1, z2, z3, z4, z5] [(0, v1), (1, v2), (2, v3), (3, v4), (4, v5)] = some #[v1, v2, v3, v4, v5] := by
    simp [Instr.fill, h1, h2, h3, h4, h5, Array.zipIdx]
  simp only [execOp, List.map_toArray, List.map_cons, List.map_nil, e1, e2, e3, e4, e5, Instr.build, Sem.run_bind, run_zeroValue (P := P) (t := t), Result.andThen_ok, underlying, run_program, hu.ok, Sem.run_pure, run_sizeOf (P := P) (t := e), Value.cells]
  rw [hf]
  rfl
theorem y_aidx [hu : Und P t (.array n e)] [ha : Agg P e false] [hi : Inf P e zv 1 bytes] (hx : evl σ x = .agg cs) (hy : evl σ y = .int k i) (hn : i < n) (hc : cs[i]? = some v) : Y P σ ⟨d, .index t x y, ty, pos, af, g⟩ w v w := by
  refine Y.val ?_
  simp only [execOp, hx, hy, Instr.index, asIntOf, Sem.run_bind, Sem.run_pure, Result.andThen_ok, underlying, run_program, hu.ok]
  have h1 : (0:Int) ≤ i ∧ (i:Int) < n := by omega
  simp [h1, hn, run_sizeOf (P := P) (t := e), part, run_isAgg (P := P) (t := e), hc]
end
theorem fpc {P : Program} {n : Nat} {fn : Func} {R : Value → World → Prop} {σ : Env} {w : World} {tt : Nat} {ty : TypeId} {ex : Exit} {b : Nat} {l : List Value} {zv : Value} {bytes : Nat} {ds : Ctx} (hex : ex = .ret ∨ ex = .normal) (hr : fn.results = #[.cell tt ty]) (ht : Nat.blt tt n = true) (hp : σ tt = .pointer (pb b)) (ho : Own w b l)
    [ha : Agg P ty true] [hi : Inf P ty zv l.length bytes] (h : R (.agg l.toArray) w) (hd : ds.ds = [] := by rfl) : fpost P n fn R ex ds σ w := by
  obtain ⟨T, ho⟩ := ho
  obtain ⟨dd, hd1, hd2⟩ := ha.ok
  obtain ⟨i, hi1, hi2, hi3, hi4⟩ := inf_size (P := P) (t := ty)
  exact fp_of hex hd (results_cell_row (P := P) hr (act n ds.ds σ).tmps w b T l.toArray (0, 0) dd (by rw [act_getD ht]; exact hp) ho hd1 (by revert hd2; cases dd <;> exact id) (by rw [hi1]; simp [hi3])) h
end Go.Sv

/-
  Packages link and sieveref12: Check; sievelaw12: LinkKinds.
-/
set_option linter.unusedSimpArgs false
set_option linter.unusedVariables false
set_option linter.unnecessarySimpa false
namespace Go.Proofs.YtffaoehhhdcjjaaDoor
open Go Go.Sv Go.RowKit
def neverL : List (List UInt8) := [[106, 97, 118, 97, 115, 99, 114, 105, 112, 116], [100, 97, 116, 97], [118, 98, 115, 99, 114, 105, 112, 116], [98, 108, 111, 98], [102, 105, 108, 101], [102, 105, 108, 101, 115, 121, 115, 116, 101, 109], [97, 98, 111, 117, 116]]
def neverV : List Value := neverL.map fun s => str s
/-- the variable holds what its initialiser lays -/
def Never (w : World) : Prop := Im [] w (some ⟨0, 0, none⟩) neverV
theorem Never.frm {w w' : World} (h : Never w) (hf : Frm w w') : Never w' := Im.frm h hf
theorem neverV_at {i : Nat} {x : List UInt8} (h : neverL[i]? = some x) : neverV[i]? = some (str x) := by simp [neverV, h]
def goodB12 (c : UInt8) : Bool := schB c.toNat && !upperR c.toNat
def headBad (s : List UInt8) : Bool := decide (s = []) || decide (100 < s.length) || decide (at0 s 0 < 97) || decide (122 < at0 s 0)
def checkR (s : List UInt8) : Int := if headBad s = true then 120 else if s.all goodB12 = true then (if s ∈ neverL then 120 else 0) else 120
theorem low_iff (s : List UInt8) : s = lowR s ↔ ∀ c ∈ s, upperR c.toNat = false := by
  unfold lowR
  induction s with
  | nil => simp
  | cons c t ih =>
    rw [List.map_cons, List.cons.injEq, ih]
    simp only [List.forall_mem_cons]
    refine and_congr_left fun _ => ?_
    have h256 := UInt8.toNat_lt c
    unfold lowN
    constructor
    · intro h
      cases hu : upperR c.toNat with
      | false => rfl
      | true =>
        rw [hu, if_pos rfl] at h
        have h1 := congrArg UInt8.toNat h
        have h90 : c.toNat ≤ 90 := by simp only [upperR, Bool.and_eq_true, decide_eq_true_eq] at hu; omega
        rw [UInt8.toNat_ofNat_of_lt' (by have : c.toNat + 32 < 256 := by omega
                                         simpa using this)] at h1
        omega
    · intro h
      rw [h, if_neg Bool.false_ne_true]
      simp
theorem all_take {p : UInt8 → Bool} {s : List UInt8} (h : ∀ j, j < s.length → p (UInt8.ofNat (at0 s j)) = true) : s.all p = true := by
  rw [List.all_eq_true]
  intro c hc
  obtain ⟨j, hj, rfl⟩ := List.mem_iff_getElem.1 hc
  have := h j hj
  simpa [at0, hj] using this
theorem all_at {p : UInt8 → Bool} {s : List UInt8} (h : s.all p = true) (j : Nat) (hj : j < s.length) : p (UInt8.ofNat (at0 s j)) = true := by
  rw [List.all_eq_true] at h
  have := h s[j] (List.getElem_mem hj)
  simpa [at0, hj] using this
theorem mem_never {s : List UInt8} (h : ∀ j, j < 7 → neverL[j]? ≠ some s) : s ∉ neverL := by
  intro hm
  obtain ⟨j, hj, he⟩ := List.mem_iff_getElem.1 hm
  exact h j hj (by rw [List.getElem?_eq_getElem hj, he])

theorem headBad_iff (s : List UInt8) : headBad s = true ↔ s = [] ∨ 100 < (s.length : Int) ∨ ((at0 s 0 : Nat) : Int) < 97 ∨ 122 < ((at0 s 0 : Nat) : Int) := by
  unfold headBad
  simp only [Bool.or_eq_true, decide_eq_true_eq, or_assoc]
  exact or_congr Iff.rfl (or_congr (by omega) (or_congr (by omega) (by omega)))
theorem good_of {s : List UInt8} (h : s.all goodB12 = true) {i : Nat} (hi : i < s.length) : schB (at0 s i) = true ∧ upperR (at0 s i) = false := by
  have := all_at h i hi
  have h256 := at_lt s i
  simp only [goodB12, Bool.and_eq_true, Bool.not_eq_true'] at this
  rwa [UInt8.toNat_ofNat_of_lt' (by simpa using h256)] at this
theorem good_all {s : List UInt8} (h : ∀ j, j < s.length → schB (at0 s j) = true ∧ upperR (at0 s j) = false) : s.all goodB12 = true := all_take fun j hj => by
  have h256 := at_lt s j
  simp only [goodB12, Bool.and_eq_true, Bool.not_eq_true']
  rw [UInt8.toNat_ofNat_of_lt' (by simpa using h256)]
  exact h j hj
theorem low_at {s : List UInt8} : s = lowR s ↔ ∀ j, j < s.length → upperR (at0 s j) = false := by
  rw [low_iff]
  constructor
  · intro h j hj
    have := h s[j] (List.getElem_mem hj)
    simpa [at0, hj] using this
  · intro h c hc
    obtain ⟨j, hj, rfl⟩ := List.mem_iff_getElem.1 hc
    have := h j hj
    simpa [at0, hj] using this
set_option maxHeartbeats 2000000 in
theorem check_ok (s : List UInt8) (hb : s.length ≤ 4611686018427387904) (w : World) (hG : Never w) : PureC Tryd.prog 14 #[str s] w (int (checkR s)) := by
  obtain ⟨K, e⟩ : ∃ K, K = checkR s := ⟨_, rfl⟩
  rw [← e]
  unfold checkR at e
  have h256 := at_lt s 0
  have hpos : s ≠ [] → 0 < s.length := fun h => List.length_pos_iff.2 h
  refine enter (l := [str s]) Tryd.func14 rfl Tryd.ntmps14 (by kernel_rfl) rfl ?_
  refine sgo ?_
  refine wlcallgp (vals := [str s]) (fun _ => lower_ok s hb _) fun w1 hf1 => ?_
  refine sgo ?_
  (show WC _ _ _ _ _ _ _; first | refine WC_dec rfl (fun hc => ?_) (fun hc => ?_) | refine WC_cond rfl (fun hc => ?_) (fun hc => ?_))
  · have hK : K = 120 := by
      simp only [pkb_or, Bool.or_eq_true, decide_eq_true_eq] at hc
      by_cases hh : headBad s = true
      · rw [e, if_pos hh]
      · rw [e, if_neg hh]
        have hl : s ≠ lowR s := by
          rcases hc with (((h | h) | h) | h) | h
          · exact absurd ((headBad_iff s).2 (.inl h)) hh
          · exact absurd ((headBad_iff s).2 (.inr (.inl h))) hh
          · exact absurd ((headBad_iff s).2 (.inr (.inr (.inl h)))) hh
          · exact absurd ((headBad_iff s).2 (.inr (.inr (.inr h)))) hh
          · exact h
        rw [if_neg]
        intro ha
        exact hl (low_at.2 fun j hj => (good_of ha hj).2)
    refine sgo ?_
    (first | refine fp1 (.inl rfl) rfl rfl ?_ | refine fp2 (.inl rfl) rfl rfl rfl ?_ | refine fp3 (.inl rfl) rfl rfl rfl rfl ?_ | refine fp0 (.inr rfl) rfl ?_ | refine fp0 (.inl rfl) rfl ?_ | refine fp1 (.inr rfl) rfl rfl ?_); refine ⟨?_, by (first | exact Frm.refl _ | assumption | (refine Frm.trans ?_ (by assumption); first | exact Frm.refl _ | assumption))⟩; (try simp only [realB, rv_true, Nat.reduceBEq, cond_true, cond_false, entG, real_lif, updGL])
    rw [hK]
  have hh : ¬ headBad s = true := by
    intro h
    rw [headBad_iff] at h
    have hc' : ¬ ((((s = [] ∨ 100 < (s.length : Int)) ∨ ((at0 s 0 : Nat) : Int) < 97) ∨ 122 < ((at0 s 0 : Nat) : Int)) ∨ s ≠ lowR s) := by
      intro h2
      have h3 : ∀ b : Bool, b = false → b = true → False := by decide
      refine h3 _ hc ?_
      simp only [pkb_or, Bool.or_eq_true, decide_eq_true_eq]
      exact h2
    exact hc' (by rcases h with h | h | h | h <;> simp [h])
  have hlow : s = lowR s := by
    by_cases h : s = lowR s
    · exact h
    · exfalso
      have h3 : ∀ b : Bool, b = false → b = true → False := by decide
      refine h3 _ hc ?_
      simp only [pkb_or, Bool.or_eq_true, decide_eq_true_eq]
      exact .inr h
  rw [if_neg hh] at e
  have hup := low_at.1 hlow
  clear hc hlow
  refine sgo ?_
  refine wcloop (X := Nat) (fun i => [(0, str s), (30, int s.length), (31, int i)]) (fun i wr => i ≤ s.length ∧ (∀ j, j < i → schB (at0 s j) = true) ∧ Frm w wr) (fun i => s.length - i) 0 ⟨rfl, rfl, rfl, trivial⟩ ⟨by omega, by omega, hf1⟩ ?_
  rintro i wr ρ ⟨hi, hj, hfr⟩
  refine sgo ?_
  (show WC _ _ _ _ _ _ _; first | refine WC_dec rfl (fun hc => ?_) (fun hc => ?_) | refine WC_cond rfl (fun hc => ?_) (fun hc => ?_))
  · have hil : i < s.length := by omega
    have h2 := at_lt s i
    clear hc
    refine sgo ?_
    refine wlpure (schemeByte_ok (at0 s i) h2 _) fun w2 hf2 => ?_
    have hfr2 := hfr.trans hf2
    refine sgo ?_
    (show WC _ _ _ _ _ _ _; first | refine WC_dec rfl (fun hc => ?_) (fun hc => ?_) | refine WC_cond rfl (fun hc => ?_) (fun hc => ?_))
    · have hb' : schB (at0 s i) = false := by simpa using hc
      have hK : K = 120 := by
        rw [e, if_neg]
        intro ha
        rw [(good_of ha hil).1] at hb'
        cases hb'
      refine sgo ?_
      (first | refine fp1 (.inl rfl) rfl rfl ?_ | refine fp2 (.inl rfl) rfl rfl rfl ?_ | refine fp3 (.inl rfl) rfl rfl rfl rfl ?_ | refine fp0 (.inr rfl) rfl ?_ | refine fp0 (.inl rfl) rfl ?_ | refine fp1 (.inr rfl) rfl rfl ?_); refine ⟨?_, by (first | exact Frm.refl _ | assumption | (refine Frm.trans ?_ (by assumption); first | exact Frm.refl _ | assumption))⟩; (try simp only [realB, rv_true, Nat.reduceBEq, cond_true, cond_false, entG, real_lif, updGL])
      rw [hK]
    · have hb' : schB (at0 s i) = true := by simpa using hc
      refine sgo ?_
      refine ⟨i + 1, ⟨rfl, rfl, rfl, trivial⟩, ⟨by omega, fun j hj' => ?_, hfr2⟩, by omega⟩
      rcases Nat.lt_or_ge j i with h | h
      · exact hj j h
      · obtain rfl : j = i := by omega
        exact hb'
  obtain rfl : i = s.length := by omega
  have hall : s.all goodB12 = true := good_all fun j hj' => ⟨hj j hj', hup j hj'⟩
  rw [if_pos hall] at e
  clear hc hj hup
  have hGr := hG.frm hfr
  have hnl : neverV.length = 7 := rfl
  refine sgo ?_
  refine wl ?_ (y_loada (p := some ⟨0, 0, none⟩) (i := 0) rfl hGr.sg (Nat.le_of_ble_eq_true rfl) ⟨_, rfl⟩)
  refine sgo ?_
  refine wcloop (X := Nat) (fun i => [(0, str s), (40, .agg ⟨neverV⟩), (41, int i)]) (fun i wr => i ≤ 7 ∧ (∀ j, j < i → neverL[j]? ≠ some s) ∧ Frm w wr) (fun i => 7 - i) 0 ⟨rfl, rfl, rfl, trivial⟩ ⟨by omega, by omega, hfr⟩ ?_
  clear hfr hGr
  rintro i wr2 ρ2 ⟨hi, hj, hfr⟩
  refine sgo ?_
  (show WC _ _ _ _ _ _ _; first | refine WC_dec rfl (fun hc => ?_) (fun hc => ?_) | refine WC_cond rfl (fun hc => ?_) (fun hc => ?_))
  · have hil : i < 7 := by omega
    clear hc
    obtain ⟨x, hx⟩ : ∃ x, neverL[i]? = some x := ⟨_, List.getElem?_eq_getElem (show i < neverL.length from hil)⟩
    have hxv := neverV_at hx
    refine sgo ?_
    refine wl ?_ (y_aidx (v := str x) (cs := ⟨neverV⟩) (i := i) rfl rfl hil (by simpa using hxv))
    refine sgo ?_
    (show WC _ _ _ _ _ _ _; first | refine WC_dec rfl (fun hc => ?_) (fun hc => ?_) | refine WC_cond rfl (fun hc => ?_) (fun hc => ?_))
    · have hK : K = 120 := by
        rw [e, if_pos]
        have hsx : s = x := hc
        rw [hsx]
        exact List.mem_of_getElem? hx
      refine sgo ?_
      (first | refine fp1 (.inl rfl) rfl rfl ?_ | refine fp2 (.inl rfl) rfl rfl rfl ?_ | refine fp3 (.inl rfl) rfl rfl rfl rfl ?_ | refine fp0 (.inr rfl) rfl ?_ | refine fp0 (.inl rfl) rfl ?_ | refine fp1 (.inr rfl) rfl rfl ?_); refine ⟨?_, by (first | exact Frm.refl _ | assumption | (refine Frm.trans ?_ (by assumption); first | exact Frm.refl _ | assumption))⟩; (try simp only [realB, rv_true, Nat.reduceBEq, cond_true, cond_false, entG, real_lif, updGL])
      rw [hK]
    · have hsx : ¬ s = x := hc
      refine sgo ?_
      refine ⟨i + 1, ⟨rfl, rfl, rfl, trivial⟩, ⟨by omega, fun j hj' => ?_, hfr⟩, by omega⟩
      rcases Nat.lt_or_ge j i with h | h
      · exact hj j h
      · obtain rfl : j = i := by omega
        rw [hx]
        intro h2
        exact hsx (Option.some.inj h2).symm
  · obtain rfl : i = 7 := by omega
    have hK : K = 0 := by rw [e, if_neg (mem_never hj)]
    refine sgo ?_
    (first | refine fp1 (.inl rfl) rfl rfl ?_ | refine fp2 (.inl rfl) rfl rfl rfl ?_ | refine fp3 (.inl rfl) rfl rfl rfl rfl ?_ | refine fp0 (.inr rfl) rfl ?_ | refine fp0 (.inl rfl) rfl ?_ | refine fp1 (.inr rfl) rfl rfl ?_); refine ⟨?_, by (first | exact Frm.refl _ | assumption | (refine Frm.trans ?_ (by assumption); first | exact Frm.refl _ | assumption))⟩; (try simp only [realB, rv_true, Nat.reduceBEq, cond_true, cond_false, entG, real_lif, updGL])
    rw [hK]
set_option maxHeartbeats 2000000 in
theorem refCheck_ok (s : List UInt8) (hb : s.length ≤ 4611686018427387904) (w : World) : PureC Tryd.prog 15 #[str s] w (int (checkR s)) := by
  obtain ⟨K, e⟩ : ∃ K, K = checkR s := ⟨_, rfl⟩
  rw [← e]
  unfold checkR at e
  have h256 := at_lt s 0
  have hlen : s = [] ↔ (s.length : Int) < 1 := by
    constructor
    · rintro rfl; decide
    · intro h; exact List.eq_nil_of_length_eq_zero (by omega)
  refine enter (l := [str s]) Tryd.func15 rfl Tryd.ntmps15 (by kernel_rfl) rfl ?_
  refine sgo ?_
  (show WC _ _ _ _ _ _ _; first | refine WC_dec rfl (fun hc => ?_) (fun hc => ?_) | refine WC_cond rfl (fun hc => ?_) (fun hc => ?_))
  · have hK : K = 120 := by
      simp only [pkb_or, Bool.or_eq_true, decide_eq_true_eq] at hc
      rw [e, if_pos]
      rw [headBad_iff, hlen]
      rcases hc with ((h | h) | h) | h
      · exact .inl h
      · exact .inr (.inl h)
      · exact .inr (.inr (.inl h))
      · exact .inr (.inr (.inr h))
    refine sgo ?_
    (first | refine fp1 (.inl rfl) rfl rfl ?_ | refine fp2 (.inl rfl) rfl rfl rfl ?_ | refine fp3 (.inl rfl) rfl rfl rfl rfl ?_ | refine fp0 (.inr rfl) rfl ?_ | refine fp0 (.inl rfl) rfl ?_ | refine fp1 (.inr rfl) rfl rfl ?_); refine ⟨?_, by (first | exact Frm.refl _ | assumption | (refine Frm.trans ?_ (by assumption); first | exact Frm.refl _ | assumption))⟩; (try simp only [realB, rv_true, Nat.reduceBEq, cond_true, cond_false, entG, real_lif, updGL])
    rw [hK]
  have hh : ¬ headBad s = true := by
    intro h
    rw [headBad_iff, hlen] at h
    have h3 : ∀ b : Bool, b = false → b = true → False := by decide
    refine h3 _ hc ?_
    simp only [pkb_or, Bool.or_eq_true, decide_eq_true_eq]
    rcases h with h | h | h | h
    · exact .inl (.inl (.inl h))
    · exact .inl (.inl (.inr h))
    · exact .inl (.inr h)
    · exact .inr h
  rw [if_neg hh] at e
  clear hc
  refine sgo ?_
  refine wcloop (X := Nat) (fun i => [(0, str s), (25, int s.length), (26, int i)]) (fun i wr => i ≤ s.length ∧ (∀ j, j < i → schB (at0 s j) = true ∧ upperR (at0 s j) = false) ∧ Frm w wr) (fun i => s.length - i) 0 ⟨rfl, rfl, rfl, trivial⟩ ⟨by omega, by omega, Frm.refl _⟩ ?_
  rintro i wr ρ ⟨hi, hj, hfr⟩
  refine sgo ?_
  (show WC _ _ _ _ _ _ _; first | refine WC_dec rfl (fun hc => ?_) (fun hc => ?_) | refine WC_cond rfl (fun hc => ?_) (fun hc => ?_))
  · have hil : i < s.length := by omega
    have h2 := at_lt s i
    clear hc
    refine sgo ?_
    refine wlpure (inner_ok (at0 s i) h2 _) fun w2 hf2 => ?_
    refine sgo ?_
    refine wlcallgp (vals := [i32 (at0 s i)]) (fun _ => upper4_ok (at0 s i) _) fun w3 hf3 => ?_
    have hfr2 := (hfr.trans hf2).trans hf3
    refine sgo ?_
    (show WC _ _ _ _ _ _ _; first | refine WC_dec rfl (fun hc => ?_) (fun hc => ?_) | refine WC_cond rfl (fun hc => ?_) (fun hc => ?_))
    · have hK : K = 120 := by
        rw [e, if_neg]
        intro ha
        have hg := good_of ha hil
        rw [hg.1, hg.2] at hc
        revert hc
        decide
      refine sgo ?_
      (first | refine fp1 (.inl rfl) rfl rfl ?_ | refine fp2 (.inl rfl) rfl rfl rfl ?_ | refine fp3 (.inl rfl) rfl rfl rfl rfl ?_ | refine fp0 (.inr rfl) rfl ?_ | refine fp0 (.inl rfl) rfl ?_ | refine fp1 (.inr rfl) rfl rfl ?_); refine ⟨?_, by (first | exact Frm.refl _ | assumption | (refine Frm.trans ?_ (by assumption); first | exact Frm.refl _ | assumption))⟩; (try simp only [realB, rv_true, Nat.reduceBEq, cond_true, cond_false, entG, real_lif, updGL])
      rw [hK]
    · have hb' : schB (at0 s i) = true ∧ upperR (at0 s i) = false := by
        revert hc
        cases schB (at0 s i) <;> cases upperR (at0 s i) <;> simp [pkb]
      refine sgo ?_
      refine ⟨i + 1, ⟨rfl, rfl, rfl, trivial⟩, ⟨by omega, fun j hj' => ?_, hfr2⟩, by omega⟩
      rcases Nat.lt_or_ge j i with h | h
      · exact hj j h
      · obtain rfl : j = i := by omega
        exact hb'
  obtain rfl : i = s.length := by omega
  have hall : s.all goodB12 = true := good_all hj
  rw [if_pos hall] at e
  clear hc hj
  refine sgo ?_
  refine wlbsn (vs := neverV) 7 (fun b7 w7 hb7 o7 hf7 => ?_) (h1 := by intro v hv; obtain ⟨x, _, rfl⟩ := List.mem_map.1 hv; rfl)
  replace hfr := hfr.trans hf7
  have hnl : neverV.length = 7 := rfl
  refine sgo ?_
  refine wcloop (X := Nat) (fun i => [(0, str s), (42, .slice (pb b7) 7 7), (43, int 7), (44, int i)]) (fun i wr => i ≤ 7 ∧ (∀ j, j < i → neverL[j]? ≠ some s) ∧ Own wr b7 neverV ∧ Frm w wr) (fun i => 7 - i) 0 ⟨rfl, rfl, rfl, rfl, trivial⟩ ⟨by omega, by omega, o7, hfr⟩ ?_
  clear hfr o7
  rintro i wr2 ρ2 ⟨hi, hj, o7, hfr⟩
  refine sgo ?_
  (show WC _ _ _ _ _ _ _; first | refine WC_dec rfl (fun hc => ?_) (fun hc => ?_) | refine WC_cond rfl (fun hc => ?_) (fun hc => ?_))
  · have hil : i < 7 := by omega
    clear hc
    obtain ⟨x, hx⟩ : ∃ x, neverL[i]? = some x := ⟨_, List.getElem?_eq_getElem (show i < neverL.length from hil)⟩
    have hxv := neverV_at hx
    refine sgo ?_
    (show WC _ _ _ _ _ _ _; first | refine WC_dec rfl (fun hc => ?_) (fun hc => ?_) | refine WC_cond rfl (fun hc => ?_) (fun hc => ?_))
    · have hK : K = 120 := by
        rw [e, if_pos]
        have hsx : s = x := hc
        rw [hsx]
        exact List.mem_of_getElem? hx
      refine sgo ?_
      (first | refine fp1 (.inl rfl) rfl rfl ?_ | refine fp2 (.inl rfl) rfl rfl rfl ?_ | refine fp3 (.inl rfl) rfl rfl rfl rfl ?_ | refine fp0 (.inr rfl) rfl ?_ | refine fp0 (.inl rfl) rfl ?_ | refine fp1 (.inr rfl) rfl rfl ?_); refine ⟨?_, by (first | exact Frm.refl _ | assumption | (refine Frm.trans ?_ (by assumption); first | exact Frm.refl _ | assumption))⟩; (try simp only [realB, rv_true, Nat.reduceBEq, cond_true, cond_false, entG, real_lif, updGL])
      rw [hK]
    · have hsx : ¬ s = x := hc
      refine sgo ?_
      refine ⟨i + 1, ⟨rfl, rfl, rfl, rfl, trivial⟩, ⟨by omega, fun j hj' => ?_, o7, hfr⟩, by omega⟩
      rcases Nat.lt_or_ge j i with h | h
      · exact hj j h
      · obtain rfl : j = i := by omega
        rw [hx]
        intro h2
        exact hsx (Option.some.inj h2).symm
  · obtain rfl : i = 7 := by omega
    have hK : K = 0 := by rw [e, if_neg (mem_never hj)]
    refine sgo ?_
    (first | refine fp1 (.inl rfl) rfl rfl ?_ | refine fp2 (.inl rfl) rfl rfl rfl ?_ | refine fp3 (.inl rfl) rfl rfl rfl rfl ?_ | refine fp0 (.inr rfl) rfl ?_ | refine fp0 (.inl rfl) rfl ?_ | refine fp1 (.inr rfl) rfl rfl ?_); refine ⟨?_, by (first | exact Frm.refl _ | assumption | (refine Frm.trans ?_ (by assumption); first | exact Frm.refl _ | assumption))⟩; (try simp only [realB, rv_true, Nat.reduceBEq, cond_true, cond_false, entG, real_lif, updGL])
    rw [hK]
set_option maxHeartbeats 2000000 in
theorem linkKinds_ok (v s : List UInt8) (hv : v.length ≤ 1048576) (hs : s.length ≤ 1048576) (w : World) (hG : Never w) : PureC Tryd.prog 3 #[str v, str s] w (.bool true) := by
  refine enter (l := [str v, str s]) Tryd.func3 rfl Tryd.ntmps3 (by kernel_rfl) rfl ?_
  refine sgo ?_
  refine wlpure (scheme2_ok v (by omega) _) fun w1 hf1 => ?_
  refine sgo ?_
  refine wlpure (refScheme_ok v (by omega) _) fun w2 hf2 => ?_
  replace hf2 := hf1.trans hf2
  refine sgo ?_
  refine wlpure (strip_ok v (by omega) _) fun w3 hf3 => ?_
  replace hf3 := hf2.trans hf3
  refine sgo ?_
  refine wlpure (refStrip_ok v (by omega) _) fun w4 hf4 => ?_
  replace hf4 := hf3.trans hf4
  refine sgo ?_
  refine wlcallgp (vals := [str v]) (fun _ => kind_ok v (by omega) _) fun w5 hf5 => ?_
  replace hf5 := hf4.trans hf5
  refine sgo ?_
  refine wlcallgp (vals := [str v]) (fun _ => refKind_ok v (by omega) _) fun w6 hf6 => ?_
  replace hf6 := hf5.trans hf6
  refine sgo ?_
  refine wlcallgp (vals := [str s]) (fun _ => check_ok s (by omega) _ (hG.frm hf6)) fun w7 hf7 => ?_
  replace hf7 := hf6.trans hf7
  refine sgo ?_
  refine wlcallgp (vals := [int (checkR s)]) (fun _ => num12_ok _ _) fun w8 hf8 => ?_
  replace hf8 := hf7.trans hf8
  refine sgo ?_
  refine wlcallgp (vals := [str s]) (fun _ => refCheck_ok s (by omega) _) fun w9 hf9 => ?_
  replace hf9 := hf8.trans hf9
  refine sgo ?_
  refine wlcallgp (vals := []) (fun _ => awake_ok _) (fun w10 hf10 => ?_) (ha := fun _ => rfl)
  have hf := hf9.trans hf10
  refine sgo ?_
  (first | refine fp1 (.inl rfl) rfl rfl ?_ | refine fp2 (.inl rfl) rfl rfl rfl ?_ | refine fp3 (.inl rfl) rfl rfl rfl rfl ?_ | refine fp0 (.inr rfl) rfl ?_ | refine fp0 (.inl rfl) rfl ?_ | refine fp1 (.inr rfl) rfl rfl ?_); refine ⟨?_, by (first | exact Frm.refl _ | assumption | (refine Frm.trans ?_ (by assumption); first | exact Frm.refl _ | assumption))⟩; (try simp only [realB, rv_true, Nat.reduceBEq, cond_true, cond_false, entG, real_lif, updGL])
  simp [pkb_and]
end Go.Proofs.YtffaoehhhdcjjaaDoor

/-
  From a frame to what a row asks behind the call: nothing that was there has turned (new blocks may be frozen).
-/
set_option linter.unusedSimpArgs false
set_option linter.unusedVariables false
set_option linter.unnecessarySimpa false
namespace Go.ChangeShapes
section
variable {H : Type} {enc : TypeId × Value → H} {P : Program}
theorem post_frm {f : Func} {s : ChangeSpec} {apart fresh handsOn again : Bool} {W W' : World} {args : Array Value} {v : Value} {ds gs : List (DataW H)} {before pa pv : List MemPlace}
    (hW : DataW.Whole enc P f.params.toList s.vars apart W args.toList ds gs before)
    (hres : ∀ (b : Nat) (sp : Nat → Bool) (hd : Bool), DataW.TrodAll enc P W' b sp hd f.resultTypes.toList (v.resultList f.resultTypes.size) (s.fn H (ds ++ gs)).results [])
    (hargs : ∀ sp : Nat → Bool, (∀ p ∈ before, sp p.block = true) → DataW.TrodAll enc P W' 0 sp true f.params.toList args.toList (s.fn H (ds ++ gs)).args pa)
    (hvars : ∀ sp : Nat → Bool, (∀ p ∈ before, sp p.block = true) → DataW.TrodVars enc P W' sp s.vars (s.fn H (ds ++ gs)).vars pv)
    (hps : before = pa ++ pv) (hk : Sv.Frm W W')
    (hok : ∀ (j : Nat) (t : TypeId) (r : Value), f.resultTypes[j]? = some t → (v.resultList f.resultTypes.size)[j]? = some r → Value.okWide P W' .any 0 t r) :
    s.post enc P f apart fresh handsOn again W args v W' := by
  have hold : ∀ p ∈ before, (fun b => decide (b < W.heap.size)) p.block = true := fun p hp => by simpa using hW.lt p hp
  refine ⟨ds, gs, before, [], pa, pv, hW, hres _ _ _, hargs _ hold, hvars _ hold, World.keptBut_mono (fun p hp => ⟨hp, ?_⟩) (RowKit.Below.frame hk (· ∈ before)), fun _ => ?_⟩
  · rw [hps, List.mem_append] at hp
    exact Or.inr hp
  · have hlt := hW.lt
    obtain ⟨_, _, _, _, _, hz, hn⟩ := hW
    refine ⟨hok, _, _, ([] ++ pa) ++ pv, ⟨[] ++ pa, pv, trodAll_append (hargs _ (fun _ _ => rfl)) (hres _ _ _), hvars _ (fun _ _ => rfl), rfl, ?_, ?_⟩, ?_⟩
    · intro b off hp
      have hp' : (.cell b off : MemPlace) ∈ before := by rw [hps]; simpa using hp
      rw [RowKit.Below.frozen hk (hlt _ hp')]
      exact hz b off hp'
    · intro ha
      have := hn ha
      rw [hps] at this
      simpa using this
    · intro p hp _
      rw [hps]
      simpa using hp
end
end Go.ChangeShapes

/-
  From a reading of the arguments to what lies in memory; and back: a law leaves the arguments as they were.
-/
set_option linter.unusedSimpArgs false
set_option linter.unusedVariables false
set_option linter.unnecessarySimpa false
namespace Go.Sv
open Go Go.RowKit Go.ChangeShapes Go.WideShapes
theorem cell_lt {w : World} {a : Addr} {v : Value} (h : w.cell? a = some v) : a.block < w.heap.size := by
  rcases Nat.lt_or_ge a.block w.heap.size with h1 | h1
  · exact h1
  · have : w.heap[a.block]? = none := Array.getElem?_eq_none h1
    simp [World.cell?, this] at h
theorem seg_app {w : World} {a : Addr} {l l' : List Value} (h : seg w a l) (h' : seg w (a.add l.length) l') : seg w a (l ++ l') := by
  intro i hi
  rcases Nat.lt_or_ge i l.length with h1 | h1
  · rw [h i h1, List.getElem?_append_left h1]
  · have := h' (i - l.length) (by simp at hi; omega)
    rw [add_add, show l.length + (i - l.length) = i by omega] at this
    rw [this, List.getElem?_append_right h1]
theorem seg_range {w : World} {a : Addr} {k : Nat} (f : Nat → List Value) : ∀ n : Nat, (∀ i, i < n → (f i).length = k ∧ seg w (a.add (i * k)) (f i)) → seg w a ((List.range n).flatMap f) ∧ ((List.range n).flatMap f).length = n * k
  | 0, _ => ⟨fun i hi => by simp at hi, by simp⟩
  | n + 1, h => by
    obtain ⟨h1, h2⟩ := seg_range f n fun i hi => h i (by omega)
    obtain ⟨h3, h4⟩ := h n (by omega)
    rw [List.range_succ, List.flatMap_append]
    simp only [List.flatMap_cons, List.flatMap_nil, List.append_nil]
    refine ⟨seg_app h1 (by rw [h2]; exact h4), ?_⟩
    rw [List.length_append, h2, h3, Nat.succ_mul]
/-- a law's ending: it answered true, and left all as it was -/
theorem trodAll_frm {H : Type} {enc : TypeId × Value → H} {P : Program} (hl : laidOutB P = true) {W W' : World} (hf : Sv.Frm W W') {sp : Nat → Bool} : ∀ {ts : List TypeId} {vs : List Value} {ds : List (DataW H)} {ps : List MemPlace},
    (∀ t ∈ ts, P.readableRec t = true ∧ t < P.types.size) → DataW.TrodAll enc P W 0 (fun _ => true) true ts vs ds ps → (∀ p ∈ ps, p.block < W.heap.size) → (∀ p ∈ ps, sp p.block = true) → DataW.TrodAll enc P W' 0 sp true ts vs ds ps
  | [], [], [], _, _, h, _, _ => h
  | t :: ts, v :: vs, d :: ds, _, ht, ⟨p, q, h1, h2, e⟩, hlt, hs => by
    subst e
    refine ⟨p, q, ?_, ?_, rfl⟩
    · obtain ⟨hr, hrow⟩ := ht t List.mem_cons_self
      exact WideElems.Trod_stays hl hr hrow h1 (fun x hx => RowKit.Below.same hf (hlt x (List.mem_append_left _ hx))) fun x hx => hs x (List.mem_append_left _ hx)
    · exact trodAll_frm hl hf (fun t ht' => ht t (List.mem_cons_of_mem _ ht')) h2 (fun x hx => hlt x (List.mem_append_right _ hx)) fun x hx => hs x (List.mem_append_right _ hx)
theorem law_ends {H : Type} {enc : TypeId × Value → H} {P : Program} {f : Func} {s : ChangeSpec} {W W' : World} {args : Array Value} {ds gs : List (DataW H)} {before : List MemPlace} {tb : TypeId}
    (hl : laidOutB P = true) (hT : ∀ t ∈ f.params.toList, P.readableRec t = true ∧ t < P.types.size) (hv : s.vars = []) (hrt : f.resultTypes = #[tb]) (hb : P.underlying tb = some .bool)
    (hW : DataW.Whole enc P f.params.toList s.vars false W args.toList ds gs before) (hfn : s.fn H (ds ++ gs) = { results := [.lit (.bool true)], args := ds ++ gs }) (hg : Frm W W') :
    s.post enc P f false true false false W args (.bool true) W' := by
  have hW' := hW
  have hlt := hW.lt
  obtain ⟨p, q, hA, hV, rfl, _, _⟩ := hW
  rw [hv] at hV
  obtain ⟨rfl, rfl⟩ := trodVars_none hV
  have hrl : (Value.bool true).resultList f.resultTypes.size = [.bool true] := by rw [hrt]; rfl
  simp only [List.append_nil] at hlt hfn
  refine post_frm (pa := p) (pv := []) hW' (fun _ _ _ => ?_) (fun sp hsp => ?_) (fun _ _ => ?_) rfl hg (ok_one hrt rfl (okWide_bool_mk hb _))
  · rw [hrt]
    simp only [List.append_nil, hfn]
    exact trodAll_cons_mk (shut_bool hb _) trodAll_mk0
  · simp only [List.append_nil, hfn]
    exact trodAll_frm hl hg hT hA hlt (fun x hx => hsp x (by simpa using hx))
  · simp only [List.append_nil, hfn, hv]
    rfl
end Go.Sv
namespace Go.Proofs.YtffaoehhhdcjjaaDoor
open Go Go.Sv Go.RowKit Go.ChangeShapes Go.WideShapes Go.Deep

theorem laidOut : laidOutB Tryd.prog = true := by kernel_rfl
theorem own : ownKnob Tryd.prog.godebug = none := by kernel_rfl

section
variable {H : Type} {P : Program} {enc : TypeId × Value → H} {w : World} {base : Nat} {spare : Nat → Bool} {held : Bool}
theorem bulkAll_eq : ∀ l : List (DataW H), Rows.uptoBulkAll l = (l.map Rows.uptoBulk).sum
  | [] => by simp [Rows.uptoBulkAll]
  | d :: l => by simp only [Rows.uptoBulkAll, List.map_cons, List.sum_cons, bulkAll_eq l]
theorem bulk_slice (es rs : List (DataW H)) : Rows.uptoBulk (.slice es rs) = (es.map Rows.uptoBulk).sum + (rs.map Rows.uptoBulk).sum + 1 := by simp only [Rows.uptoBulk, bulkAll_eq]
theorem bulk_agg (es : List (DataW H)) : Rows.uptoBulk (.agg es) = (es.map Rows.uptoBulk).sum + 1 := by simp only [Rows.uptoBulk, bulkAll_eq]
theorem bulk_nil : Rows.uptoBulk (.nil : DataW H) = 1 := by simp only [Rows.uptoBulk]
theorem bulk_str (l : List UInt8) : Rows.uptoBulk (.lit (.string l) : DataW H) = l.length + 1 := by simp only [Rows.uptoBulk]
theorem bulk_int (k : IntKind) (n : Int) : Rows.uptoBulk (.lit (.int k n) : DataW H) = 1 := by simp only [Rows.uptoBulk]
theorem bulk_bool (b : Bool) : Rows.uptoBulk (.lit (.bool b) : DataW H) = 1 := by simp only [Rows.uptoBulk]

/-- a slice of records: what they are, where they lie, and what they hold together -/
theorem open_recs {t e : TypeId} {fuel : Nat} {cs : List Value} {x : DataW H × List MemPlace} {α : Type} (cells : α → List Value) (wt : α → Nat) (Q : α → Prop) (ht : P.underlying t = some (.slice e))
    (h : DataW.trod enc P w base spare held fuel t cs = some x)
    (hrec : ∀ k cs' y, cs'.length = P.cellsOf e → DataW.trod enc P w base spare held k e cs' = some y → ∃ r, cs' = cells r ∧ Q r ∧ wt r ≤ Rows.uptoBulk y.1) :
    ∃ (p : Option Addr) (c : Nat) (rs : List α), cs = [.slice p rs.length c] ∧ rs.length ≤ c ∧ c ≤ maxLen ∧ Im [] w p (rs.flatMap cells) ∧ (∀ r ∈ rs, Q r) ∧ (rs.map wt).sum + 1 ≤ Rows.uptoBulk x.1 := by
  rcases open_slice ht h with ⟨rfl, rfl⟩ | ⟨a, len, cap, m, n, D, Pl, rfl, _, hl, hm, hmm, rfl, hi⟩
  · exact ⟨none, 0, [], rfl, Nat.le_refl _, Nat.zero_le _, .inl rfl, by simp, by simp [bulk_nil]⟩
  · have hlm : len ≤ m := by rw [hmm]; split <;> omega
    have key : ∀ n : Nat, n ≤ len → ∃ rs : List α, rs.length = n ∧ rs.flatMap cells = (List.range n).flatMap (fun i => (w.cells? base (a.add (i * P.cellsOf e)) (P.cellsOf e)).getD []) ∧ (∀ r ∈ rs, Q r) ∧ (rs.map wt).sum ≤ ((List.range n).map fun i => Rows.uptoBulk (D i)).sum := by
      intro n
      induction n with
      | zero => intro _; exact ⟨[], rfl, rfl, by simp, by simp⟩
      | succ n ih =>
        intro hn
        obtain ⟨rs, h1, h2, h3, h4⟩ := ih (by omega)
        obtain ⟨cs', h5, h6⟩ := hi n (by omega)
        obtain ⟨_, hcl, _⟩ := World.cells?_some h5
        obtain ⟨r, h7, h8, h9⟩ := hrec _ _ _ hcl h6
        refine ⟨rs ++ [r], by simp [h1], ?_, ?_, ?_⟩
        · rw [List.range_succ, List.flatMap_append, List.flatMap_append, h2]
          simp [h5, h7]
        · intro x hx
          rcases List.mem_append.1 hx with hx | hx
          · exact h3 x hx
          · rw [List.mem_singleton.1 hx]; exact h8
        · rw [List.range_succ, List.map_append, List.map_append, List.sum_append, List.sum_append]
          simp only [List.map_cons, List.map_nil, List.sum_cons, List.sum_nil]
          dsimp only at h9
          omega
    obtain ⟨rs, h1, h2, h3, h4⟩ := key len (Nat.le_refl _)
    refine ⟨some a, cap, rs, by rw [h1], by omega, hm, ?_, h3, ?_⟩
    · rw [h2]
      have hsr := seg_range (w := w) (a := a) (k := P.cellsOf e) (fun i => (w.cells? base (a.add (i * P.cellsOf e)) (P.cellsOf e)).getD []) len (fun i hil => by
        obtain ⟨cs', h5, _⟩ := hi i (by omega)
        obtain ⟨_, hcl, hat⟩ := World.cells?_some h5
        rw [h5]
        exact ⟨hcl, fun j hj => hat j (by simpa [hcl] using hj)⟩)
      generalize (List.range len).flatMap (fun i => (w.cells? base (a.add (i * P.cellsOf e)) (P.cellsOf e)).getD []) = L at *
      cases L with
      | nil => exact .inl rfl
      | cons v L =>
        refine .inr ⟨a, rfl, hsr.1, ?_, by simp⟩
        have := hsr.1 0 (by simp)
        have h0 : w.cell? (a.add 0) = some v := this
        have := cell_lt h0
        rwa [add_block] at this
    · rw [bulk_slice, List.map_map]
      have : ((List.range len).map (Rows.uptoBulk ∘ D)).sum = ((List.range len).map fun i => Rows.uptoBulk (D i)).sum := rfl
      omega
theorem str_of (s : ByteArray) : Value.string s = str s.data.toList := by cases s; rfl
/-- a cell that is a text -/
theorem open_strc {t : TypeId} {fuel : Nat} {cs : List Value} {x : DataW H × List MemPlace} (ht : P.underlying t = some .string) (h : DataW.trod enc P w base spare held fuel t cs = some x) : ∃ l : List UInt8, cs = [str l] ∧ Rows.uptoBulk x.1 = l.length + 1 := by
  obtain ⟨s, rfl, rfl, _⟩ := DataW.trod_string ht h
  exact ⟨s.data.toList, by rw [str_of], bulk_str _⟩
theorem open_intc {t : TypeId} {k : IntKind} {fuel : Nat} {cs : List Value} {x : DataW H × List MemPlace} (ht : P.underlying t = some (.int k)) (h : DataW.trod enc P w base spare held fuel t cs = some x) : ∃ n : Int, cs = [.int k n] ∧ k.min ≤ n ∧ n ≤ k.max ∧ Rows.uptoBulk x.1 = 1 := by
  obtain ⟨n, rfl, rfl, hw⟩ := DataW.trod_int ht h
  simp only [Lit.wf, IntKind.has, Bool.and_eq_true, decide_eq_true_eq] at hw
  exact ⟨n, rfl, hw.1, hw.2, bulk_int _ _⟩
theorem open_boolc {t : TypeId} {fuel : Nat} {cs : List Value} {x : DataW H × List MemPlace} (ht : P.underlying t = some .bool) (h : DataW.trod enc P w base spare held fuel t cs = some x) : ∃ b : Bool, cs = [.bool b] ∧ Rows.uptoBulk x.1 = 1 := by
  obtain ⟨b, rfl, rfl⟩ := DataW.trod_bool ht h
  exact ⟨b, rfl, bulk_bool _⟩
theorem small_le {ds : List (DataW H)} (hk : Rows.uptoSmall H ds = true) : (ds.map Rows.uptoBulk).sum ≤ 1048576 := by
  have := of_decide_eq_true hk
  rwa [bulkAll_eq] at this
end
end Go.Proofs.YtffaoehhhdcjjaaDoor

/-
  Readings of arguments of one cell: texts.
-/
set_option linter.unusedSimpArgs false
set_option linter.unusedVariables false
set_option linter.unnecessarySimpa false
namespace Go.Proofs.YtffaoehhhdcjjaaDoor
open Go Go.Sv Go.RowKit Go.ChangeShapes Go.WideShapes Go.Deep
section
variable {H : Type} {enc : TypeId × Value → H} {w : World} {base : Nat} {spare : Nat → Bool} {held : Bool}
set_option maxRecDepth 100000 in
theorem open_str1 {v : Value} {d : DataW H} {ps : List MemPlace} {r : Reach} {b0 : Nat} (hv : Value.okWide Tryd.prog w r b0 9 v) (h : DataW.Trod enc Tryd.prog w base spare held 9 v d ps) :
    ∃ l : List UInt8, v = str l ∧ l.length + 1 ≤ Rows.uptoBulk d := by
  obtain ⟨s, rfl⟩ := okWide_string Tryd.underlying9 hv
  obtain ⟨fuel, hf⟩ := h
  obtain ⟨l, e, hw⟩ := open_strc Tryd.underlying9 hf
  dsimp only at hw
  exact ⟨l, by simpa [Value.cells] using e, by omega⟩
end
end Go.Proofs.YtffaoehhhdcjjaaDoor

/-
  What a row's list says of the variable link.never.
-/
set_option linter.unusedSimpArgs false
set_option linter.unusedVariables false
set_option linter.unnecessarySimpa false
namespace Go.Proofs.YtffaoehhhdcjjaaDoor
open Go Go.Sv Go.RowKit Go.ChangeShapes Go.WideShapes Go.ChangeAt

theorem cells_of_strs {H : Type} {enc : TypeId × Value → H} {P : Program} {w : World} {base : Nat} {sp : Nat → Bool} {held : Bool} {fuel : Nat} {t e : TypeId} {n : Nat} {cs : List Value} {ss : List (List UInt8)} {p : List MemPlace}
    (ht : P.underlying t = some (.array n e)) (he : P.underlying e = some .string) (hce : P.cellsOf e = 1) (hct : P.cellsOf t = n)
    (h : DataW.trod enc P w base sp held fuel t cs = some (.agg (ss.map fun s => .lit (.string s)), p)) : cs = ss.map fun s => str s := by
  cases fuel with
  | zero => simp [DataW.trod] at h
  | succ fuel =>
    simp only [DataW.trod, ht, hce, hct, Nat.mul_one] at h
    split at h
    · rename_i hl
      obtain ⟨xs, hm, hx⟩ := Option.map_eq_some_iff.1 h
      have hxs : xs.map (·.1) = ss.map fun s => (DataW.lit (.string s) : DataW H) := by
        have := congrArg Prod.fst hx
        simpa using this
      have hxl : xs.length = n := by simpa using Go.Lib.mapM_length hm
      have hzl : ss.length = n := by
        have := congrArg List.length hxs
        simp at this
        omega
      apply List.ext_getElem?
      intro i
      by_cases hi : i < n
      · obtain ⟨b, hb, hf⟩ := Go.Lib.mapM_at hm i i (by simp [hi])
        obtain ⟨s, hc, rfl, _⟩ := DataW.trod_string he hf
        have h1 : cs[i]? = some (.string s) := by
          have := congrArg (·[0]?) hc
          simpa [List.getElem?_take, List.getElem?_drop] using this
        have h2 : (xs.map (·.1))[i]? = some (DataW.lit (.string s.data.toList) : DataW H) := by simp [hb]
        rw [hxs] at h2
        simp only [List.getElem?_map, Option.map_eq_some_iff, DataW.lit.injEq, Lit.string.injEq] at h2
        obtain ⟨s', hs', e'⟩ := h2
        rw [h1, List.getElem?_map, hs', Option.map_some, e', str_of]
      · rw [List.getElem?_eq_none (by omega), List.getElem?_eq_none (by simp; omega)]
    · cases h
theorem gNever : Tryd.prog.globalNamed "sieve/link.never" = some 0 := by kernel_rfl
theorem gNeverType : (Tryd.prog.globals[0]?).map (·.type) = some 62 := by kernel_rfl
theorem never_of {W : World} {rest : List (String × DataW Unit)} (h : laidMet Tryd.prog (("sieve/link.never", Rows.laid_sieve_link_never) :: rest) W) : Never W := by
  obtain ⟨ps, ⟨g', t', cs, fuel, p, q, hg', ht', hvar, hd, _, _⟩, _⟩ := h
  obtain rfl := Option.some.inj (gNever.symm.trans hg')
  obtain rfl := Option.some.inj (gNeverType.symm.trans ht')
  have hcs : cs.toList = neverV := cells_of_strs (ss := neverL) Tryd.underlying62 Tryd.underlying9 (by kernel_rfl) (by kernel_rfl) hd
  have hcell : ∀ i, W.cell? ⟨0, i, none⟩ = neverV[i]? := fun i => by
    have := World.var?_cell gNever hvar i
    rw [this, ← hcs]
    simp
  have hlt : 0 < W.heap.size := by
    have h0 : W.cell? ⟨0, 0, none⟩ = some (str [106, 97, 118, 97, 115, 99, 114, 105, 112, 116]) := hcell 0
    exact cell_lt h0
  refine .inr ⟨_, rfl, fun i hi => ?_, hlt, by simp⟩
  have ea : (⟨0, 0, none⟩ : Addr).add i = ⟨0, i, none⟩ := by unfold Addr.add; split <;> simp_all
  rw [ea]
  exact hcell i
/-- a world for the witness: the variable holds what its initialiser lays -/
noncomputable def neverWorld (os : Os) : World :=
  { World.holding Tryd.prog os ⟨#[], #[], []⟩ with heap := (World.holding Tryd.prog os ⟨#[], #[], []⟩).heap.modify 0 fun
      | .cells _ t frozen => .cells neverV.toArray t frozen
      | o => o }
end Go.Proofs.YtffaoehhhdcjjaaDoor

/-
  Package link: Allowed.
-/
set_option linter.unusedSimpArgs false
set_option linter.unusedVariables false
set_option linter.unnecessarySimpa false
namespace Go.Proofs.YtffaoehhhdcjjaaDoor
open Go Go.Sv Go.RowKit
def strV (l : List (List UInt8)) : List Value := l.map fun s => str s
theorem strV_at {l : List (List UInt8)} {i : Nat} {x : List UInt8} (h : l[i]? = some x) : (strV l)[i]? = some (str x) := by simp [strV, h]
theorem strV_len (l : List (List UInt8)) : (strV l).length = l.length := by simp [strV]
theorem mem_at {l : List (List UInt8)} {s : List UInt8} (h : ∀ j, j < l.length → l[j]? ≠ some s) : s ∉ l := by
  intro hm
  obtain ⟨j, hj, he⟩ := List.mem_iff_getElem.1 hm
  exact h j hj (by rw [List.getElem?_eq_getElem hj, he])
set_option maxHeartbeats 1000000 in
theorem among_ok (l : List (List UInt8)) (s : List UInt8) (b c : Nat) (hn : l.length ≤ 1000000) (w : World) (o : Own w b (strV l)) (oc : Own w c [str s]) : CallsR Tryd.prog 45 #[.slice (pb b) l.length l.length, ptrAt (pb c) 0] w fun v w' => v = .bool (decide (s ∈ l)) ∧ w' = w := by
  refine enter (l := [.slice (pb b) l.length l.length, ptrAt (pb c) 0]) Tryd.func45 rfl Tryd.ntmps45 (by kernel_rfl) rfl ?_
  refine sgo ?_
  refine wcloop (X := Nat) (fun i => [(1, ptrAt (pb c) 0), (6, .slice (pb b) l.length l.length), (7, int l.length), (8, int i)]) (fun i wr => i ≤ l.length ∧ (∀ j, j < i → l[j]? ≠ some s) ∧ wr = w) (fun i => l.length - i) 0 ⟨rfl, rfl, rfl, rfl, trivial⟩ ⟨by omega, by omega, rfl⟩ ?_
  rintro i wr ρ ⟨hi, hj, rfl⟩
  refine sgo ?_
  (show WC _ _ _ _ _ _ _; first | refine WC_dec rfl (fun hc => ?_) (fun hc => ?_) | refine WC_cond rfl (fun hc => ?_) (fun hc => ?_))
  · have hil : i < l.length := by omega
    clear hc
    obtain ⟨x, hx⟩ : ∃ x, l[i]? = some x := ⟨_, List.getElem?_eq_getElem hil⟩
    have hxv := strV_at hx
    have hlv := strV_len l
    refine sgo ?_
    (show WC _ _ _ _ _ _ _; first | refine WC_dec rfl (fun hc => ?_) (fun hc => ?_) | refine WC_cond rfl (fun hc => ?_) (fun hc => ?_))
    · have hsx : x = s := hc
      have hK : s ∈ l := hsx ▸ List.mem_of_getElem? hx
      refine sgo ?_
      (first | refine fp1 (.inl rfl) rfl rfl ?_ | refine fp2 (.inl rfl) rfl rfl rfl ?_ | refine fp3 (.inl rfl) rfl rfl rfl rfl ?_ | refine fp0 (.inr rfl) rfl ?_ | refine fp0 (.inl rfl) rfl ?_ | refine fp1 (.inr rfl) rfl rfl ?_)
      exact ⟨by rw [decide_eq_true hK]; rfl, rfl⟩
    · have hsx : ¬ x = s := hc
      refine sgo ?_
      refine ⟨i + 1, ⟨rfl, rfl, rfl, rfl, trivial⟩, ⟨by omega, fun j hj' => ?_, rfl⟩, by omega⟩
      rcases Nat.lt_or_ge j i with h | h
      · exact hj j h
      · obtain rfl : j = i := by omega
        rw [hx]
        intro h2
        exact hsx (Option.some.inj h2)
  · obtain rfl : i = l.length := by omega
    have hK : s ∉ l := mem_at hj
    refine sgo ?_
    (first | refine fp1 (.inl rfl) rfl rfl ?_ | refine fp2 (.inl rfl) rfl rfl rfl ?_ | refine fp3 (.inl rfl) rfl rfl rfl rfl ?_ | refine fp0 (.inr rfl) rfl ?_ | refine fp0 (.inl rfl) rfl ?_ | refine fp1 (.inr rfl) rfl rfl ?_)
    exact ⟨by rw [decide_eq_false hK]; rfl, rfl⟩
/-- may a link be, where every scheme of the list is a good one -/
def allowR (v : List UInt8) (l : List (List UInt8)) (rel : Bool) : Bool :=
  if (schemeR (stripR v)).2 = true then decide (lowR ((stripR v).take (schemeR (stripR v)).1) ∈ l) else rel
set_option maxHeartbeats 1000000 in
theorem allowed_ok (v : List UInt8) (l : List (List UInt8)) (rel : Bool) (b : Nat) (hb : v.length ≤ 1073741824) (hn : l.length ≤ 1000000) (hl : ∀ s ∈ l, checkR s = 0 ∧ s.length ≤ 4611686018427387904) (w : World) (hG : Never w) (o : Own w b (strV l)) : PureC Tryd.prog 18 #[str v, .slice (pb b) l.length l.length, .bool rel] w (.tuple #[.bool (allowR v l rel), int 0]) := by
  obtain ⟨K, e⟩ : ∃ K, K = allowR v l rel := ⟨_, rfl⟩
  rw [← e]
  unfold allowR at e
  have hlv := strV_len l
  refine enter (l := [str v, .slice (pb b) l.length l.length, .bool rel]) Tryd.func18 rfl Tryd.ntmps18 (by kernel_rfl) rfl ?_
  refine sgo ?_
  refine wcloop (X := Nat) (fun i => [(0, str v), (1, .slice (pb b) l.length l.length), (2, .bool rel), (14, .slice (pb b) l.length l.length), (15, int l.length), (16, int i)]) (fun i wr => i ≤ l.length ∧ Frm w wr) (fun i => l.length - i) 0 ⟨rfl, rfl, rfl, rfl, rfl, rfl, trivial⟩ ⟨by omega, Frm.refl _⟩ ?_
  rintro i wr ρ ⟨hi, hfr⟩
  have or := o.frm hfr
  have hGr := hG.frm hfr
  refine sgo ?_
  (show WC _ _ _ _ _ _ _; first | refine WC_dec rfl (fun hc => ?_) (fun hc => ?_) | refine WC_cond rfl (fun hc => ?_) (fun hc => ?_))
  · have hil : i < l.length := by omega
    clear hc
    obtain ⟨x, hx⟩ : ∃ x, l[i]? = some x := ⟨_, List.getElem?_eq_getElem hil⟩
    have hxv := strV_at hx
    have hg := hl x (List.mem_of_getElem? hx)
    refine sgo ?_
    refine wlpure (check_ok x hg.2 _ hGr) fun w2 hf2 => ?_
    rw [hg.1]
    have hfr2 := hfr.trans hf2
    refine sgo ?_
    refine ⟨i + 1, ⟨rfl, rfl, rfl, rfl, rfl, rfl, trivial⟩, ⟨by omega, hfr2⟩, by omega⟩
  clear hc hGr
  refine sgo ?_
  refine wlpure (scheme2_ok v hb _) fun w2 hf2 => ?_
  replace hfr := hfr.trans hf2
  replace or := or.frm hf2
  generalize lowR ((stripR v).take (schemeR (stripR v)).1) = s at *
  generalize (schemeR (stripR v)).2 = ok at *
  refine sgo ?_
  refine wlalloc fun b3 w3 hb3 o3 hf3 => ?_
  have hz := hfr.size
  have hol := o.lt
  replace hfr := hfr.trans hf3
  replace or := or.frm hf3
  refine sgo ?_
  refine wlst_str o3 fun w4 o4 hl4 => ?_
  have hb3' : w.heap.size ≤ b3 := by omega
  have or4 := or.le hl4 (by simp; omega)
  have hfr4 := hfr.step hl4 (by intro x hx; simp at hx; omega)
  clear or hfr hf3 hf2 o3 hl4
  refine sgo ?_
  cases ok with
  | false =>
    rw [if_neg Bool.false_ne_true] at e
    subst e
    refine sgo ?_
    (first | refine fp1 (.inl rfl) rfl rfl ?_ | refine fp2 (.inl rfl) rfl rfl rfl ?_ | refine fp3 (.inl rfl) rfl rfl rfl rfl ?_ | refine fp0 (.inr rfl) rfl ?_ | refine fp0 (.inl rfl) rfl ?_ | refine fp1 (.inr rfl) rfl rfl ?_); refine ⟨?_, by (first | exact Frm.refl _ | assumption | (refine Frm.trans ?_ (by assumption); first | exact Frm.refl _ | assumption))⟩; (try simp only [realB, rv_true, Nat.reduceBEq, cond_true, cond_false, entG, real_lif, updGL])
  | true =>
    rw [if_pos rfl] at e
    subst e
    refine sgo ?_
    refine wlcallv (first := []) (args := [.slice (pb b) l.length l.length]) (cap := [ptrAt (pb b3) 0]) (among_ok l s b b3 hn _ or4 o4) fun u w9 hR => ?_
    obtain ⟨rfl, rfl⟩ := hR
    refine sgo ?_
    (first | refine fp1 (.inl rfl) rfl rfl ?_ | refine fp2 (.inl rfl) rfl rfl rfl ?_ | refine fp3 (.inl rfl) rfl rfl rfl rfl ?_ | refine fp0 (.inr rfl) rfl ?_ | refine fp0 (.inl rfl) rfl ?_ | refine fp1 (.inr rfl) rfl rfl ?_); refine ⟨?_, by (first | exact Frm.refl _ | assumption | (refine Frm.trans ?_ (by assumption); first | exact Frm.refl _ | assumption))⟩; (try simp only [realB, rv_true, Nat.reduceBEq, cond_true, cond_false, entG, real_lif, updGL])
end Go.Proofs.YtffaoehhhdcjjaaDoor

/-
  What is put into a link to hide its scheme changes nothing: the plain law.
-/
set_option linter.unusedSimpArgs false
set_option linter.unusedVariables false
set_option linter.unnecessarySimpa false
namespace Go.Proofs.YtffaoehhhdcjjaaDoor
open Go Go.Sv Go.RowKit
theorem keep_cutL : ∀ rs : List Nat, keepN (cutL rs) = cutL (keepN rs)
  | [] => rfl
  | r :: rs => by
    have ih := keep_cutL rs
    unfold cutL keepN at ih ⊢
    rw [List.dropWhile_cons]
    by_cases h : r ≤ 32
    · rw [if_pos (by simpa using h), ih]
      by_cases hk : r ≠ 9 ∧ r ≠ 10 ∧ r ≠ 13
      · rw [List.filter_cons_of_pos (by simpa using hk), List.dropWhile_cons, if_pos (by simpa using h)]
      · rw [List.filter_cons_of_neg (by simpa using hk)]
    · rw [if_neg (by simpa using h)]
      have hk : r ≠ 9 ∧ r ≠ 10 ∧ r ≠ 13 := by omega
      rw [List.filter_cons_of_pos (by simpa using hk), List.dropWhile_cons, if_neg (by simpa using h)]
theorem keep_rev (rs : List Nat) : keepN rs.reverse = (keepN rs).reverse := by simp [keepN, List.filter_reverse]
theorem keep_app (a b : List Nat) : keepN (a ++ b) = keepN a ++ keepN b := by simp [keepN]
theorem keep_none {a : List Nat} (h : ∀ r ∈ a, r = 9 ∨ r = 10 ∨ r = 13) : keepN a = [] := by
  unfold keepN
  rw [List.filter_eq_nil_iff]
  intro r hr
  have := h r hr
  simp only [decide_eq_true_eq]
  omega
theorem stripN_eq (rs : List Nat) : stripN rs = cutT (cutL (keepN rs)) := by
  unfold stripN cutT
  rw [keep_rev, keep_cutL, keep_rev, keep_cutL]
theorem dw_nil {p : Nat → Bool} : ∀ {S : List Nat}, (∀ r ∈ S, p r = true) → S.dropWhile p = []
  | [], _ => rfl
  | r :: S, h => by
    rw [List.dropWhile_cons, if_pos (h r List.mem_cons_self)]
    exact dw_nil fun x hx => h x (List.mem_cons_of_mem _ hx)
theorem cutL_blank {S X : List Nat} (h : ∀ r ∈ S, r ≤ 32) : cutL (S ++ X) = cutL X := by
  unfold cutL
  rw [List.dropWhile_append, dw_nil (by simpa using h)]
  simp
theorem cutLT_end {X S : List Nat} (h : ∀ r ∈ S, r ≤ 32) : cutT (cutL (X ++ S)) = cutT (cutL X) := by
  have e : cutL (X ++ S) = cutL X ++ S ∨ (cutL X = [] ∧ cutL (X ++ S) = []) := by
    unfold cutL
    rw [List.dropWhile_append]
    split
    · rename_i hh
      refine .inr ⟨by simpa using hh, dw_nil (by simpa using h)⟩
    · exact .inl rfl
  rcases e with e | ⟨e1, e2⟩
  · rw [e]
    unfold cutT
    rw [List.reverse_append, cutL_blank (by simpa using h)]
  · rw [e1, e2]
theorem keep_mem {rs : List Nat} {r : Nat} (h : r ∈ keepN rs) : r ∈ rs := (List.mem_filter.1 h).1
theorem strip_hide (rs put pre suf : List Nat) (k : Nat) (hput : ∀ r ∈ put, r = 9 ∨ r = 10 ∨ r = 13) (hpre : ∀ r ∈ pre, r ≤ 32) (hsuf : ∀ r ∈ suf, r ≤ 32) :
    stripN (pre ++ (rs.take k ++ put ++ rs.drop k) ++ suf) = stripN rs := by
  rw [stripN_eq, stripN_eq rs, keep_app, keep_app, cutLT_end fun r hr => hsuf r (keep_mem hr), cutL_blank fun r hr => hpre r (keep_mem hr), keep_app, keep_app, keep_none hput, List.append_nil, ← keep_app, List.take_append_drop]
/-- no byte of a stripped text is a tab, a line's end or a return -/
theorem strip_clean (l : List UInt8) : ∀ c ∈ stripR l, c.toNat ≠ 9 ∧ c.toNat ≠ 10 ∧ c.toNat ≠ 13 := by
  intro c hc
  obtain ⟨r, hr, hcr⟩ := List.mem_flatMap.1 hc
  have hg := runesN_good l r (stripN_mem hr)
  have hk := (List.mem_filter.1 hr).2
  simp only [decide_eq_true_eq] at hk
  by_cases h : r < 128
  · rw [enc_low r h, List.mem_singleton] at hcr
    subst hcr
    rw [UInt8.toNat_ofNat_of_lt' (show r < 256 by omega)]
    exact hk
  · have := enc_first r hg (by omega) c hcr
    omega
/-- what is put in -/
def putR (q : Nat) : List UInt8 := if q = 0 then [9] else if q = 1 then [10] else if q = 2 then [13] else [10, 9]
def hideR (v : List UInt8) (k q : Nat) : List UInt8 := [1, 32] ++ ((runesN v).take k).flatMap encR ++ putR q ++ ((runesN v).drop k).flatMap encR ++ [31, 32, 0]
def putN (q : Nat) : List Nat := if q = 0 then [9] else if q = 1 then [10] else if q = 2 then [13] else [10, 9]
theorem put_enc (q : Nat) : putR q = (putN q).flatMap encR := by
  unfold putR putN
  split
  · rfl
  · split
    · rfl
    · split <;> rfl
theorem put_tab (q : Nat) : ∀ r ∈ putN q, r = 9 ∨ r = 10 ∨ r = 13 := by
  unfold putN
  split
  · simp
  · split
    · simp
    · split <;> simp
theorem hide_strip (v : List UInt8) (k q : Nat) : stripR (hideR v k q) = stripR v := by
  have e : hideR v k q = (([1, 32] : List Nat) ++ ((runesN v).take k ++ putN q ++ (runesN v).drop k) ++ [31, 32, 0]).flatMap encR := by
    unfold hideR
    rw [put_enc]
    simp only [List.flatMap_append, List.append_assoc]
    rfl
  have hg : ∀ r ∈ (([1, 32] : List Nat) ++ ((runesN v).take k ++ putN q ++ (runesN v).drop k) ++ [31, 32, 0]), Good r := by
    intro r hr
    simp only [List.mem_append] at hr
    have low : r ≤ 32 → Good r := fun h => by unfold Good; omega
    rcases hr with (h | (h | h) | h) | h
    · exact low (by simp at h; omega)
    · exact runesN_good v r (List.mem_of_mem_take h)
    · exact low (by have := put_tab q r h; omega)
    · exact runesN_good v r (List.mem_of_mem_drop h)
    · exact low (by simp at h; omega)
  unfold stripR
  rw [e, runesN_flat _ hg, strip_hide _ _ _ _ _ (put_tab q) (by simp) (by simp)]
theorem hide_len (v : List UInt8) (k q : Nat) : (hideR v k q).length ≤ 4 * v.length + 7 := by
  have h1 := encR_flat ((runesN v).take k)
  have h2 := encR_flat ((runesN v).drop k)
  have h3 := runesN_len v
  have h4 : (putR q).length ≤ 2 := by
    unfold putR
    split
    · simp
    · split
      · simp
      · split <;> simp
  unfold hideR
  simp only [List.length_append, List.length_cons, List.length_nil, List.length_take, List.length_drop] at *
  omega
end Go.Proofs.YtffaoehhhdcjjaaDoor

/-
  sievelaw12: LinkHides.
-/
set_option linter.unusedSimpArgs false
set_option linter.unusedVariables false
set_option linter.unnecessarySimpa false
namespace Go.Proofs.YtffaoehhhdcjjaaDoor
open Go Go.Sv Go.RowKit
theorem clean_at {s : List UInt8} (h : ∀ c ∈ s, c.toNat ≠ 9 ∧ c.toNat ≠ 10 ∧ c.toNat ≠ 13) {i : Nat} (hi : i < s.length) : at0 s i ≠ 9 ∧ at0 s i ≠ 10 ∧ at0 s i ≠ 13 := by
  have := h s[i] (List.getElem_mem hi)
  simpa [at0, hi] using this
def schemesL : List (List UInt8) := [[104, 116, 116, 112, 115], [109, 97, 105, 108, 116, 111]]
def putL : List (List UInt8) := [[9], [10], [13], [10, 9]]
set_option maxRecDepth 100000 in
theorem schemes_good : ∀ s ∈ schemesL, checkR s = 0 ∧ s.length ≤ 4611686018427387904 := by
  intro s hs
  simp only [schemesL, List.mem_cons, List.not_mem_nil, or_false] at hs
  rcases hs with rfl | rfl
  · exact ⟨by decide, by decide⟩
  · exact ⟨by decide, by decide⟩
set_option maxHeartbeats 2000000 in
theorem linkHides_ok (v0 : List UInt8) (a q : Int) (hv : v0.length ≤ 1048576) (w : World) (hG : Never w) : PureC Tryd.prog 4 #[str v0, int a, int q] w (.bool true) := by
  refine enter (l := [str v0, int a, int q]) Tryd.func4 rfl Tryd.ntmps4 (by kernel_rfl) rfl ?_
  refine sgo ?_
  refine wlpure (refMend_ok v0 (by omega) _) fun w1 hf1 => ?_
  have hml := mendR_len v0
  have hval := valid_mend v0
  generalize mendR v0 = v at *
  refine sgo ?_
  refine wlpure (strip_ok v (by omega) _) fun w2 hf2 => ?_
  replace hf2 := hf1.trans hf2
  have hcl := strip_clean v
  obtain ⟨s, es⟩ : ∃ s, s = stripR v := ⟨_, rfl⟩
  rw [← es] at hcl ⊢
  have hsl : s.length ≤ 4611686018427387904 := by have := stripR_len v; rw [es]; omega
  refine sgo ?_
  refine wcloop (X := Nat) (fun i => [(0, str v), (1, int a), (2, int q), (7, str s), (29, int s.length), (30, int i)]) (fun i wr => i ≤ s.length ∧ Frm w wr) (fun i => s.length - i) 0 ⟨rfl, rfl, rfl, rfl, rfl, rfl, trivial⟩ ⟨by omega, hf2⟩ ?_
  rintro i wr ρ ⟨hi, hfr⟩
  refine sgo ?_
  (show WC _ _ _ _ _ _ _; first | refine WC_dec rfl (fun hc => ?_) (fun hc => ?_) | refine WC_cond rfl (fun hc => ?_) (fun hc => ?_))
  · have hil : i < s.length := by omega
    have hca := clean_at hcl hil
    have h2 := at_lt s i
    clear hc
    refine sgo ?_
    (show WC _ _ _ _ _ _ _; first | refine WC_dec rfl (fun hc => ?_) (fun hc => ?_) | refine WC_cond rfl (fun hc => ?_) (fun hc => ?_))
    · exfalso
      simp only [pkb_or, Bool.or_eq_true, decide_eq_true_eq] at hc
      obtain ⟨h9, h10, h13⟩ := hca
      rcases hc with (h | h) | h
      · exact h9 (Int.ofNat.inj h)
      · exact h10 (Int.ofNat.inj h)
      · exact h13 (Int.ofNat.inj h)
    refine sgo ?_
    refine ⟨i + 1, ⟨rfl, rfl, rfl, rfl, rfl, rfl, trivial⟩, ⟨by omega, hfr⟩, by omega⟩
  clear hc hcl
  have hrl := runesN_len v
  refine sgo ?_
  refine wls2r hval (by omega) fun b c w3 hb3 hR3 hf3 => ?_
  replace hfr := hfr.trans hf3
  have hcap := hR3.le_cap
  obtain ⟨m, em⟩ : ∃ m, m = (runesN v).length := ⟨_, rfl⟩
  have hm : m ≤ 4194304 := by omega
  rw [← em] at hR3 hcap ⊢
  refine sgo ?_
  have hm0 : ((m : Int) + 1) ≠ 0 := by omega
  refine wl ?_ (y_remt rfl rfl hm0)
  have h1 := Int.lt_tmod_of_pos a (show (0 : Int) < (m : Int) + 1 by omega)
  have h2 := Int.tmod_lt_of_pos a (show (0 : Int) < (m : Int) + 1 by omega)
  generalize a.tmod ((m : Int) + 1) = a1 at *
  refine sgo ?_
  have h3 : (0 : Int) ≤ a1 + m + 1 := by omega
  have h4 := Int.emod_nonneg (a1 + m + 1) hm0
  have h5 := Int.emod_lt_of_pos (a1 + m + 1) (show (0 : Int) < (m : Int) + 1 by omega)
  generalize (a1 + m + 1) % ((m : Int) + 1) = k0 at *
  obtain ⟨k, rfl⟩ := Int.eq_ofNat_of_zero_le h4
  have hk : k ≤ m := by omega
  clear h1 h2 h3 h4 h5 hm0
  refine wlbsn (vs := strV putL) 4 (fun b4 w4 hb4 o4 hf4 => ?_) (h1 := by intro v hv; obtain ⟨x, _, rfl⟩ := List.mem_map.1 hv; rfl)
  replace hfr := hfr.trans hf4
  refine sgo ?_
  refine wl ?_ (y_remt rfl rfl (show (4 : Int) ≠ 0 by decide))
  have h1 := Int.lt_tmod_of_pos q (show (0 : Int) < 4 by decide)
  have h2 := Int.tmod_lt_of_pos q (show (0 : Int) < 4 by decide)
  generalize q.tmod 4 = q1 at *
  have hj0 : ∃ j : Nat, j < 4 ∧ (q1 + 4) % 4 = (j : Int) := ⟨((q1 + 4) % 4).toNat, by omega, by omega⟩
  obtain ⟨j, hj, ej⟩ := hj0
  have hput : (strV putL)[j]? = some (str (putR j)) := by
    have hj4 : j = 0 ∨ j = 1 ∨ j = 2 ∨ j = 3 := by omega
    rcases hj4 with rfl | rfl | rfl | rfl <;> rfl
  have hpl : (strV putL).length = 4 := rfl
  refine wl_bin ?_
  refine wl ?_ (y_rem (a := q1 + 4) rfl rfl ⟨by omega, show (0 : Int) < 4 by decide⟩)
  rw [ej]
  refine sgo ?_
  have hI := (hR3.im (M := []) (by simp)).frm hf4
  have hIt := hI.take k
  have hId := hI.part1 (c := c) (i' := k) (by intro h; exact List.drop_eq_nil_of_le (by rw [rs32_len]; omega))
  rw [rs32_take] at hIt
  rw [rs32_drop] at hId
  have e1 : ((runesN v).take k).length = k := by rw [List.length_take]; omega
  have e2 : ((runesN v).drop k).length = m - k := by rw [List.length_drop]; omega
  have g1 : ∀ r ∈ (runesN v).take k, Good r := fun r hr => runesN_good v r (List.mem_of_mem_take hr)
  have g2 : ∀ r ∈ (runesN v).drop k, Good r := fun r hr => runesN_good v r (List.mem_of_mem_drop hr)
  have l1 := encR_flat ((runesN v).take k)
  have l2 := encR_flat ((runesN v).drop k)
  have l3 : (putR j).length ≤ 2 := by
    have hj4 : j = 0 ∨ j = 1 ∨ j = 2 ∨ j = 3 := by omega
    rcases hj4 with rfl | rfl | rfl | rfl <;> decide
  obtain ⟨x, ex⟩ : ∃ x, x = hideR v k j := ⟨_, rfl⟩
  have hxl := hide_len v k j
  have hxs := hide_strip v k j
  rw [← ex] at hxl hxs
  unfold hideR at ex
  generalize putR j = pt at *
  have hy1 : ∀ wq, Frm w4 wq → Sg wq (pb b) (rs32 ((runesN v).take k)) := fun wq hq => (hIt.frm hq).sg
  have hy2 : ∀ wq, Frm w4 wq → Sg wq (slp c k (pb b) k) (rs32 ((runesN v).drop k)) := fun wq hq => (hId.frm hq).sg
  generalize (runesN v).take k = r1 at *
  generalize (runesN v).drop k = r2 at *
  obtain ⟨t1, et1⟩ : ∃ t, t = r1.flatMap encR := ⟨_, rfl⟩
  obtain ⟨t2, et2⟩ : ∃ t, t = r2.flatMap encR := ⟨_, rfl⟩
  rw [← et1, ← et2] at ex
  rw [← et1] at l1
  rw [← et2] at l2
  refine wcdraw ?_
  refine qgo ?_
  refine ql (v := str t1) ?_ (YQ.ofY fun wq hq => by rw [et1]; exact y_r2s (rs := r1) g1 (hy1 wq hq) (by rw [e1]; rfl))
  refine qgo ?_
  refine ql (v := str t2) ?_ (YQ.ofY fun wq hq => by rw [et2]; exact y_r2s (rs := r2) g2 (hy2 wq hq) (by rw [e2]; rfl))
  refine qgo ?_
  refine QL_nil ?_
  intro w5 hf5
  replace hfr := hfr.trans hf5
  rw [show ([1, 32] : List UInt8) ++ t1 ++ pt ++ t2 ++ [31, 32, 0] = x from ex.symm]
  clear hI hIt hId hR3 hy1 hy2 o4 hput g1 g2 e1 e2 l1 l2 l3 hf5 hf4 hf3 hb4 hb3 ej h1 h2 hcap et1 et2 ex
  refine sgo ?_
  refine wlpure (scheme2_ok v (by omega) _) fun w6 hf6 => ?_
  replace hfr := hfr.trans hf6
  refine sgo ?_
  refine wlpure (scheme2_ok x (by omega) _) fun w7 hf7 => ?_
  replace hfr := hfr.trans hf7
  rw [hxs]
  refine sgo ?_
  refine wlbsn (vs := strV schemesL) 2 (fun b8 w8 hb8 o8 hf8 => ?_) (h1 := by intro v hv; obtain ⟨x, _, rfl⟩ := List.mem_map.1 hv; rfl)
  replace hfr := hfr.trans hf8
  refine sgo ?_
  refine wlbsn (vs := [.bool false, .bool true]) 2 (fun b9 w9 hb9 o9 hf9 => ?_) (h1 := by simp [Value.cells])
  replace hfr := hfr.trans hf9
  replace o8 := o8.frm hf9
  have hax : ∀ rel, allowR x schemesL rel = allowR v schemesL rel := fun rel => by unfold allowR; rw [hxs]
  have hlx : x.length ≤ 1073741824 := by omega
  have hlv : v.length ≤ 1073741824 := by omega
  clear hf1 hf2 hf6 hf7 hf8 hf9 hb8 hb9 em hk hj hm hml hval hrl hxl
  refine sgo ?_
  rw [es]
  have hK : stripR x = stripR v := hxs
  generalize lowR ((stripR v).take (schemeR (stripR v)).1) = A at *
  generalize (schemeR (stripR v)).2 = ok at *
  refine wcloop (X := Nat) (fun i => [(0, str v), (7, str (stripR v)), (12, str x), (13, str A), (14, .bool ok), (15, str A), (16, .bool ok), (17, .slice (pb b8) 2 2), (96, .slice (pb b9) 2 2), (97, int 2), (98, int i)])
    (fun i wr => i ≤ 2 ∧ Own wr b8 (strV schemesL) ∧ Own wr b9 [.bool false, .bool true] ∧ Frm w wr) (fun i => 2 - i) 0 ⟨rfl, rfl, rfl, rfl, rfl, rfl, rfl, rfl, rfl, rfl, rfl, trivial⟩ ⟨by omega, o8, o9, hfr⟩ ?_
  clear o8 o9 hfr
  rintro i2 wr2 ρ2 ⟨hi2, o8, o9, hfr⟩
  refine sgo ?_
  (show WC _ _ _ _ _ _ _; first | refine WC_dec rfl (fun hc => ?_) (fun hc => ?_) | refine WC_cond rfl (fun hc => ?_) (fun hc => ?_))
  · have hil : i2 < 2 := by omega
    clear hc
    obtain ⟨rel, hrel⟩ : ∃ rel, ([.bool false, .bool true] : List Value)[i2]? = some (.bool rel) := by
      have h01 : i2 = 0 ∨ i2 = 1 := by omega
      rcases h01 with rfl | rfl
      · exact ⟨false, rfl⟩
      · exact ⟨true, rfl⟩
    have hll : ([.bool false, .bool true] : List Value).length = 2 := rfl
    generalize ([.bool false, .bool true] : List Value) = bl at *
    refine sgo ?_
    refine wlpure (show PureC Tryd.prog 18 #[str v, .slice (pb b8) 2 2, .bool rel] _ _ from allowed_ok v schemesL rel b8 hlv (by decide) schemes_good _ (hG.frm hfr) o8) fun w10 hf10 => ?_
    replace hfr := hfr.trans hf10
    replace o8 := o8.frm hf10
    replace o9 := o9.frm hf10
    refine sgo ?_
    refine wlpure (show PureC Tryd.prog 18 #[str x, .slice (pb b8) 2 2, .bool rel] _ _ from allowed_ok x schemesL rel b8 hlx (by decide) schemes_good _ (hG.frm hfr) o8) fun w11 hf11 => ?_
    rw [hax]
    replace hfr := hfr.trans hf11
    replace o8 := o8.frm hf11
    replace o9 := o9.frm hf11
    refine sgo ?_
    refine wlcallgp (vals := [int 0]) (fun _ => num12_ok _ _) fun w12 hf12 => ?_
    refine sgo ?_
    refine wlcallgp (vals := [int 0]) (fun _ => num12_ok _ _) fun w13 hf13 => ?_
    replace hf13 := hf12.trans hf13
    replace hfr := hfr.trans hf13
    replace o8 := o8.frm hf13
    replace o9 := o9.frm hf13
    refine sgo ?_
    (show WC _ _ _ _ _ _ _; first | refine WC_dec rfl (fun hc => ?_) (fun hc => ?_) | refine WC_cond rfl (fun hc => ?_) (fun hc => ?_))
    · exfalso
      revert hc
      simp [pkb]
    refine sgo ?_
    exact ⟨i2 + 1, ⟨rfl, rfl, rfl, rfl, rfl, rfl, rfl, rfl, rfl, rfl, rfl, trivial⟩, ⟨by omega, o8, o9, hfr⟩, by omega⟩
  clear hc o8 o9
  refine sgo ?_
  refine wlpure (strip_ok x hlx _) fun w10 hf10 => ?_
  replace hfr := hfr.trans hf10
  rw [hK]
  refine sgo ?_
  refine wlcallgp (vals := [str v]) (fun _ => kind_ok v hlv _) fun w11 hf11 => ?_
  replace hfr := hfr.trans hf11
  refine sgo ?_
  refine wlcallgp (vals := [str x]) (fun _ => kind_ok x hlx _) fun w12 hf12 => ?_
  replace hfr := hfr.trans hf12
  rw [hK]
  refine sgo ?_
  refine wlcallgp (vals := []) (fun _ => awake_ok _) (fun w13 hf13 => ?_) (ha := fun _ => rfl)
  replace hfr := hfr.trans hf13
  refine sgo ?_
  (first | refine fp1 (.inl rfl) rfl rfl ?_ | refine fp2 (.inl rfl) rfl rfl rfl ?_ | refine fp3 (.inl rfl) rfl rfl rfl rfl ?_ | refine fp0 (.inr rfl) rfl ?_ | refine fp0 (.inl rfl) rfl ?_ | refine fp1 (.inr rfl) rfl rfl ?_); refine ⟨?_, by (first | exact Frm.refl _ | assumption | (refine Frm.trans ?_ (by assumption); first | exact Frm.refl _ | assumption))⟩; (try simp only [realB, rv_true, Nat.reduceBEq, cond_true, cond_false, entG, real_lif, updGL])
  simp [pkb_and]
end Go.Proofs.YtffaoehhhdcjjaaDoor

