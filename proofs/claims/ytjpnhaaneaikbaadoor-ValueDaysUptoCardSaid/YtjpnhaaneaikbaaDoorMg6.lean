/-
  Our texts SvVaF, SvVaG, joined.
-/
import Derived.Test.YtjpnhaaneaikbaaDoorMg5
/-
  Packages value and sieveref13: Date.
-/
set_option linter.unusedSimpArgs false
set_option linter.unusedVariables false
set_option linter.unnecessarySimpa false
namespace Go.Proofs.YtjpnhaaneaikbaaDoor
open Go Go.Sv Go.RowKit

def leapR (y : Nat) : Bool := (decide (y % 4 = 0) && !decide (y % 100 = 0)) || decide (y % 400 = 0)
def daysR (y m : Nat) : Nat := if m = 4 ∨ m = 6 ∨ m = 9 ∨ m = 11 then 30 else if m = 2 then (if leapR y = true then 29 else 28) else 31
def numP : Option Nat → Nat × Bool
  | some n => (n, true)
  | none => (0, false)
theorem numV_P (r : Option Nat) : numV r = .tuple #[int (numP r).1, .bool (numP r).2] := by cases r <;> rfl
theorem numG_lt : ∀ (l : List UInt8) (n m k : Nat), n < 10 ^ k → numG l n = some m → m < 10 ^ (k + l.length)
  | [], n, m, k, h, e => by
    simp only [numG, Option.some.injEq] at e
    subst e; exact h
  | c :: l, n, m, k, h, e => by
    rw [numG] at e
    split at e
    · rename_i hd
      have hr := digit_rng hd
      have := numG_lt l _ m (k + 1) (by rw [Nat.pow_succ]; omega) e
      rw [show k + (c :: l).length = k + 1 + l.length by simp; omega]
      exact this
    · cases e
theorem numP_lt (v : List UInt8) (hb : v.length ≤ 10) : (numP (numR v)).1 < 10000000000 := by
  cases h : numR v with
  | none => decide
  | some n =>
    unfold numR at h
    split at h
    · cases h
    · have := numG_lt v 0 n 0 (by decide) h
      have h2 : (10 : Nat) ^ (0 + v.length) ≤ 10 ^ 10 := Nat.pow_le_pow_right (by decide) (by omega)
      show n < 10000000000
      have h3 : (10 : Nat) ^ 10 = 10000000000 := by decide
      omega
def okDate (v : List UInt8) (y m d : Nat × Bool) : Bool :=
  decide (v.length = 10 ∧ at0 v 4 = 45 ∧ at0 v 7 = 45) && (y.2 && (m.2 && (d.2 && decide (1 ≤ y.1 ∧ 1 ≤ m.1 ∧ m.1 ≤ 12 ∧ 1 ≤ d.1 ∧ d.1 ≤ daysR y.1 m.1))))
def dateV (ok : Bool) (y m d : Nat) : Value := if ok = true then .tuple #[int y, int m, int d, .bool true] else .tuple #[int (0 : Nat), int (0 : Nat), int (0 : Nat), .bool false]
/-- a date -/
def dateR (v : List UInt8) : Value := dateV (okDate v (numP (numR (v.take 4))) (numP (numR ((v.drop 5).take 2))) (numP (numR (v.drop 8)))) (numP (numR (v.take 4))).1 (numP (numR ((v.drop 5).take 2))).1 (numP (numR (v.drop 8))).1
theorem days_ok (y m : Nat) (w : World) : PureC Tryd.prog 33 #[int y, int m] w (int (daysR y m)) := by
  refine enter (l := [int y, int m]) Tryd.func33 rfl Tryd.ntmps33 (by kernel_rfl) rfl ?_
  repeat' (first | (first | (show WL _ _ _ _ _ _ _ _; (first | refine wlp ?_ | refine WL_nil ?_ | (show WL _ _ _ _ _ (Go.Oper.mk _ _ _ _ _ none :: _) _ _; first | refine wlpk ?_ | refine wl_load ?_ | refine wl_idxa ?_ | refine wl_fld ?_ | refine wl_idx ?_ | refine wl_len ?_ | refine wl_bin ?_ | refine wl_cnv ?_ | refine wl_slc ?_ | refine wl_una ?_ | refine wl_nilc ?_ | refine wl_mkf ?_) | refine wlpg ?_ | refine wlg_load ?_ | refine wlg_idxa ?_ | refine wlg_fld ?_ | refine wlg_idx ?_ | refine wlg_len ?_ | refine wlg_bin ?_ | refine wlg_cnv ?_ | refine wlg_slc ?_ | refine wlg_una ?_ | refine wlg_nilc ?_ | refine wlg_mkf ?_)) | (show thn _ _ _ _ _ _; (first | refine thn_normal ?_ | refine thn_ret ?_ | refine thn_exit ?_)) | (show thl _ _ _ _ _ _ _; (first | refine thl_normal ?_ | refine thl_ret ?_ | refine thl_exit ?_)) | (show WC _ _ _ _ _ _ _; (first | refine WC_seq ?_ | refine WC_region ?_ | refine WC_ret ?_ | refine WC_skip ?_ | refine WC_block ?_ | refine WC_exit ?_ | refine WC_label ?_ | refine WC_scope rfl ?_ | refine wcyes ?_ | refine wcno ?_)) | (show blk _ _ _ _ _ _; (first | refine blk_ret ?_ | refine blk_here ?_ | refine blk_on rfl ?_ | refine blk_normal ?_)) | (show ngt _ _ _ _ _; (first | refine ngt_normal ?_ | refine ngt_ret ?_ | refine ngt_exit ?_))) | (show WC _ _ _ _ _ _ _; refine WC_cond rfl (fun hc => ?_) (fun hc => ?_)))
  all_goals ((first | refine fp1 (.inl rfl) rfl rfl ?_ | refine fp2 (.inl rfl) rfl rfl rfl ?_ | refine fp3 (.inl rfl) rfl rfl rfl rfl ?_ | refine fp0 (.inr rfl) rfl ?_ | refine fp0 (.inl rfl) rfl ?_ | refine fp1 (.inr rfl) rfl rfl ?_); refine ⟨?_, by (first | exact Frm.refl _ | assumption | exact Go.Sv.Sep.frm (by assumption) | (refine Frm.trans ?_ (by assumption); first | exact Frm.refl _ | assumption))⟩)
  all_goals (try simp only [pkb_or, pkb_and, Bool.and_eq_true, Bool.or_eq_true, Bool.and_eq_false_iff, Bool.or_eq_false_iff, decide_eq_true_eq, decide_eq_false_iff_not, Bool.not_eq_true', Bool.not_eq_false'] at *)
  all_goals (show Value.int .i64 _ = .int .i64 _)
  all_goals congr 1
  all_goals unfold daysR leapR
  all_goals simp only [Bool.or_eq_true, Bool.and_eq_true, Bool.not_eq_true', decide_eq_true_eq, decide_eq_false_iff_not]
  all_goals (repeat' split)
  all_goals omega
set_option maxHeartbeats 2000000 in
theorem date_ok (s : List UInt8) (hb : s.length ≤ 100000000) (w : World) : PureC Tryd.prog 19 #[str s] w (dateR (cleanR s)) := by
  have hl := cleanR_len s
  refine enter (l := [str s]) Tryd.func19 rfl Tryd.ntmps19 (by kernel_rfl) rfl ?_
  refine sgo ?_
  refine wlpure (inClean_ok s (by omega) _) fun w1 hf1 => ?_
  generalize cleanR s = v at *
  refine sgo ?_
  refine WC_cond rfl (fun hc => ?_) (fun hc => ?_)
  · have hno : dateR v = .tuple #[int (0 : Nat), int (0 : Nat), int (0 : Nat), .bool false] := by
      unfold dateR dateV okDate
      have : decide (v.length = 10 ∧ at0 v 4 = 45 ∧ at0 v 7 = 45) = false := by
        rw [decide_eq_false_iff_not]
        rintro ⟨h1, h2, h3⟩
        simp only [pkb_or, Bool.or_eq_true, decide_eq_true_eq] at hc
        unfold at0 at h2 h3
        omega
      rw [this, Bool.false_and, if_neg (by decide)]
    rw [hno]
    refine sgo ?_
    refine fp4 (.inl rfl) rfl rfl rfl rfl rfl ⟨rfl, hf1⟩
  simp only [pkb_or, Bool.or_eq_false_iff, decide_eq_false_iff_not] at hc
  have h10 : v.length = 10 := by omega
  have hok : (v.length = 10 ∧ at0 v 4 = 45 ∧ at0 v 7 = 45) := by unfold at0; omega
  have hd1 := fun w => digits_ok (v.take 4) (by simp; omega) w
  have hd2 := fun w => digits_ok ((v.drop 5).take 2) (by simp; omega) w
  have hd3 := fun w => digits_ok (v.drop 8) (by simp; omega) w
  have hb1 := numP_lt (v.take 4) (by simp; omega)
  have hb2 := numP_lt ((v.drop 5).take 2) (by simp; omega)
  have hb3 := numP_lt (v.drop 8) (by simp; omega)
  unfold dateR okDate
  rw [decide_eq_true hok, Bool.true_and]
  simp only [numV_P] at hd1 hd2 hd3
  clear hc hok
  refine sgo ?_
  refine wlpure (hd1 _) fun w2 hf2 => ?_
  refine sgo ?_
  refine wlpure (hd2 _) fun w3 hf3 => ?_
  refine sgo ?_
  refine wlpure (hd3 _) fun w4 hf4 => ?_
  have hf := ((hf1.trans hf2).trans hf3).trans hf4
  clear hf1 hf2 hf3 hf4 hd1 hd2 hd3
  generalize numP (numR (v.take 4)) = Y at *
  generalize numP (numR ((v.drop 5).take 2)) = M at *
  generalize numP (numR (v.drop 8)) = D at *
  obtain ⟨y, a⟩ := Y
  obtain ⟨m, b⟩ := M
  obtain ⟨d, c⟩ := D
  dsimp only at hb1 hb2 hb3 ⊢
  refine sgo ?_
  refine wlcallgp (vals := [int y, int m]) (fun _ => days_ok y m _) (fun w2 hf2 => ?_)
  replace hf := hf.trans hf2
  clear hf2
  refine sgo ?_
  refine WC_cond rfl (fun hc => ?_) (fun hc => ?_)
  · have hno : (a && (b && (c && decide (1 ≤ y ∧ 1 ≤ m ∧ m ≤ 12 ∧ 1 ≤ d ∧ d ≤ daysR y m)))) = false := by
      revert hc
      generalize daysR y m = e
      cases a <;> cases b <;> cases c <;> simp [pkb] <;> omega
    rw [hno]
    refine sgo ?_
    refine fp4 (.inl rfl) rfl rfl rfl rfl rfl ⟨rfl, hf⟩
  · have hyes : (a && (b && (c && decide (1 ≤ y ∧ 1 ≤ m ∧ m ≤ 12 ∧ 1 ≤ d ∧ d ≤ daysR y m)))) = true := by
      revert hc
      generalize daysR y m = e
      cases a <;> cases b <;> cases c <;> simp [pkb] <;> omega
    rw [hyes]
    refine sgo ?_
    refine fp4 (.inl rfl) rfl rfl rfl rfl rfl ⟨rfl, hf⟩
/-- a number of some digits at a place -/
def atP (s : List UInt8) (at_ n : Nat) : Option Nat := if at_ + n ≤ s.length then numG ((s.drop at_).take n) 0 else none
theorem numG_take {s : List UInt8} {i k n : Nat} (hi : i < s.length) : numG ((s.drop i).take (k + 1)) n = if digitR (s[i]?.getD 0).toNat = true then numG ((s.drop (i + 1)).take k) (10 * n + ((s[i]?.getD 0).toNat - 48)) else none := by
  rw [List.drop_eq_getElem_cons hi, List.take_succ_cons, numG, List.getElem?_eq_getElem hi]
  rfl
set_option maxHeartbeats 1000000 in
theorem digitsAt_ok (s : List UInt8) (at_ n : Nat) (hb : s.length ≤ 1073741824) (hn : n ≤ 9) (hn0 : 0 < n) (ha : at_ ≤ 100) (w : World) : PureC Tryd.prog 34 #[str s, int at_, int n] w (numV (atP s at_ n)) := by
  refine enter (l := [str s, int at_, int n]) Tryd.func34 rfl Tryd.ntmps34 (by kernel_rfl) rfl ?_
  refine sgo ?_
  refine wcloop (X := Nat × Nat) (fun x => [(0, str s), (1, int at_), (2, int n), (8, int x.2), (9, int (at_ + x.1 : Nat))])
    (fun x w' => x.1 ≤ n ∧ x.2 < 10 ^ x.1 ∧ (x.1 = 0 ∨ at_ + x.1 ≤ s.length) ∧ numG ((s.drop (at_ + x.1)).take (n - x.1)) x.2 = numG ((s.drop at_).take n) 0 ∧ Frm w w') (fun x => n - x.1) (0, 0) ⟨rfl, rfl, rfl, rfl, rfl, trivial⟩ ⟨Nat.zero_le _, by decide, .inl rfl, rfl, Frm.refl w⟩ ?_
  rintro ⟨i, k⟩ wr ρ ⟨hil, hk, hat, hg, hf⟩
  dsimp only at hil hk hat hg ⊢
  refine sgo ?_
  (show WC _ _ _ _ _ _ _; first | refine WC_dec rfl (fun hc => ?_) (fun hc => ?_) | refine WC_cond rfl (fun hc => ?_) (fun hc => ?_))
  · have hlt : i < n := by omega
    have h10 : (10 : Nat) ^ i ≤ 10 ^ 9 := Nat.pow_le_pow_right (by decide) (by omega)
    have hnb : k < 1000000000 := by omega
    have hc8 : (s[at_ + i]?.getD 0).toNat < 256 := UInt8.toNat_lt _
    clear hc
    refine sgo ?_
    refine wlcallgp (vals := [byt ((s[at_ + i]?.getD 0)).toNat]) (fun _ => r13Digit_ok _ _) fun w2 hf2 => ?_
    replace hf := hf.trans hf2
    clear hf2
    refine sgo ?_
    refine WC_cond rfl (fun hc => ?_) (fun hc => ?_)
    · have hnone : atP s at_ n = none := by
        unfold atP
        split
        · rename_i hle
          rw [← hg, show n - i = (n - i - 1) + 1 by omega, numG_take (by omega)]
          have : digitR (s[at_ + i]?.getD 0).toNat = false := by
            simp only [pkb_or, Bool.or_eq_true, decide_eq_true_eq, Bool.not_eq_true'] at hc
            rcases hc with hc | hc
            · omega
            · exact hc
          rw [this, if_neg (by decide)]
        · rfl
      rw [hnone]
      refine sgo ?_
      (first | refine fp1 (.inl rfl) rfl rfl ?_ | refine fp2 (.inl rfl) rfl rfl rfl ?_ | refine fp3 (.inl rfl) rfl rfl rfl rfl ?_ | refine fp0 (.inr rfl) rfl ?_ | refine fp0 (.inl rfl) rfl ?_ | refine fp1 (.inr rfl) rfl rfl ?_); refine ⟨?_, by (first | exact Frm.refl _ | assumption | exact Go.Sv.Sep.frm (by assumption) | (refine Frm.trans ?_ (by assumption); first | exact Frm.refl _ | assumption))⟩; (try simp only [realB, rv_true, Nat.reduceBEq, cond_true, cond_false, entG, real_lif, updGL])
      rfl
    · simp only [pkb_or, Bool.or_eq_false_iff, decide_eq_false_iff_not, Bool.not_eq_false'] at hc
      have hi2 : at_ + i < s.length := by omega
      have hd := hc.2
      have hrg := digit_rng hd
      rw [show n - i = (n - (i + 1)) + 1 by omega, numG_take hi2, hd, if_pos rfl] at hg
      clear hc
      refine sgo ?_
      refine ⟨(i + 1, 10 * k + ((s[at_ + i]?.getD 0).toNat - 48)), ⟨rfl, rfl, rfl, ?_, ?_, trivial⟩, ⟨by dsimp only; omega, ?_, by dsimp only; omega, hg, hf⟩, by dsimp only; omega⟩
      · show Value.int .i64 _ = .int .i64 _
        congr 1
        omega
      · show Value.int .i64 _ = .int .i64 _
        congr 1
      · dsimp only
        rw [Nat.pow_succ]
        omega
  · obtain rfl : i = n := by omega
    rw [Nat.sub_self, List.take_zero, numG] at hg
    refine sgo ?_
    (first | refine fp1 (.inl rfl) rfl rfl ?_ | refine fp2 (.inl rfl) rfl rfl rfl ?_ | refine fp3 (.inl rfl) rfl rfl rfl rfl ?_ | refine fp0 (.inr rfl) rfl ?_ | refine fp0 (.inl rfl) rfl ?_ | refine fp1 (.inr rfl) rfl rfl ?_); refine ⟨?_, by (first | exact Frm.refl _ | assumption | exact Go.Sv.Sep.frm (by assumption) | (refine Frm.trans ?_ (by assumption); first | exact Frm.refl _ | assumption))⟩; (try simp only [realB, rv_true, Nat.reduceBEq, cond_true, cond_false, entG, real_lif, updGL])
    unfold atP
    rw [if_pos (by omega), ← hg]
    rfl
theorem atP_num {s : List UInt8} {at_ n : Nat} (h : at_ + n ≤ s.length) (hn : 1 ≤ n) (h9 : n ≤ 9) : atP s at_ n = numR ((s.drop at_).take n) := by
  unfold atP numR
  rw [if_pos h, if_neg (by simp; omega)]
def dayL (y : Nat) : List Value := [int (0 : Nat), int (31 : Nat), int (if leapR y = true then 29 else 28 : Nat), int (31 : Nat), int (30 : Nat), int (31 : Nat), int (30 : Nat), int (31 : Nat), int (31 : Nat), int (30 : Nat), int (31 : Nat), int (30 : Nat), int (31 : Nat)]
theorem dayL_at (y m : Nat) (h1 : 1 ≤ m) (h2 : m ≤ 12) : (dayL y)[0 + m]? = some (int (daysR y m)) := by
  have : m = 1 ∨ m = 2 ∨ m = 3 ∨ m = 4 ∨ m = 5 ∨ m = 6 ∨ m = 7 ∨ m = 8 ∨ m = 9 ∨ m = 10 ∨ m = 11 ∨ m = 12 := by omega
  rcases this with rfl | rfl | rfl | rfl | rfl | rfl | rfl | rfl | rfl | rfl | rfl | rfl <;> rfl
set_option maxHeartbeats 2000000 in
theorem refDate_ok (s : List UInt8) (hb : s.length ≤ 100000000) (w : World) : PureC Tryd.prog 20 #[str s] w (dateR (cleanR s)) := by
  have hl := cleanR_len s
  refine enter (l := [str s]) Tryd.func20 rfl Tryd.ntmps20 (by kernel_rfl) rfl ?_
  refine sgo ?_
  refine wlpure (refClean_ok s (by omega) _) fun w1 hf1 => ?_
  generalize cleanR s = v at *
  have hd1 := fun w => digitsAt_ok v 0 4 (by omega) (by decide) (by decide) (by decide) w
  have hd2 := fun w => digitsAt_ok v 5 2 (by omega) (by decide) (by decide) (by decide) w
  have hd3 := fun w => digitsAt_ok v 8 2 (by omega) (by decide) (by decide) (by decide) w
  have e1 : v.length = 10 → atP v 0 4 = numR (v.take 4) := fun h => atP_num (by omega) (by decide) (by decide)
  have e2 : v.length = 10 → atP v 5 2 = numR ((v.drop 5).take 2) := fun h => atP_num (by omega) (by decide) (by decide)
  have e3 : v.length = 10 → atP v 8 2 = numR (v.drop 8) := fun h => by
    rw [atP_num (by omega) (by decide) (by decide), List.take_of_length_le (by simp; omega)]
  have hb1 := numP_lt (v.take 4) (by simp; omega)
  have hb2 := numP_lt ((v.drop 5).take 2) (by simp; omega)
  have hb3 : v.length = 10 → (numP (numR (v.drop 8))).1 < 10000000000 := fun h => numP_lt (v.drop 8) (by simp; omega)
  simp only [numV_P] at hd1 hd2 hd3
  have hdate : dateR v = dateV (okDate v (numP (atP v 0 4)) (numP (atP v 5 2)) (numP (atP v 8 2))) (numP (atP v 0 4)).1 (numP (atP v 5 2)).1 (numP (atP v 8 2)).1 := by
    by_cases h : v.length = 10
    · rw [e1 h, e2 h, e3 h]; rfl
    · unfold dateR okDate dateV
      rw [decide_eq_false (fun hh => h hh.1), Bool.false_and, Bool.false_and, if_neg (by decide), if_neg (by decide)]
  rw [hdate]
  have hbb : v.length = 10 → (numP (atP v 0 4)).1 < 10000000000 ∧ (numP (atP v 5 2)).1 < 10000000000 ∧ (numP (atP v 8 2)).1 < 10000000000 := fun h => by rw [e1 h, e2 h, e3 h]; exact ⟨hb1, hb2, hb3 h⟩
  clear hdate e1 e2 e3 hb1 hb2 hb3
  refine sgo ?_
  refine wlpure (hd1 _) fun w2 hf2 => ?_
  refine sgo ?_
  refine wlpure (hd2 _) fun w3 hf3 => ?_
  refine sgo ?_
  refine wlpure (hd3 _) fun w4 hf4 => ?_
  have hf := ((hf1.trans hf2).trans hf3).trans hf4
  clear hf1 hf2 hf3 hf4 hd1 hd2 hd3
  generalize numP (atP v 0 4) = Y at *
  generalize numP (atP v 5 2) = M at *
  generalize numP (atP v 8 2) = D at *
  obtain ⟨y, a⟩ := Y
  obtain ⟨m, b⟩ := M
  obtain ⟨d, c⟩ := D
  unfold okDate
  dsimp only at hbb ⊢
  refine sgo ?_
  have h4 : at0 v 4 = (v[4]?.getD 0).toNat := rfl
  have h7 : at0 v 7 = (v[7]?.getD 0).toNat := rfl
  rw [h4, h7]
  refine WC_cond rfl (fun hc => ?_) (fun hc => ?_)
  · have hno : (decide (v.length = 10 ∧ (v[4]?.getD 0).toNat = 45 ∧ (v[7]?.getD 0).toNat = 45) && (a && (b && (c && decide (1 ≤ y ∧ 1 ≤ m ∧ m ≤ 12 ∧ 1 ≤ d ∧ d ≤ daysR y m))))) = false := by
      revert hc
      generalize daysR y m = e
      generalize (v[4]?.getD 0).toNat = c4
      generalize (v[7]?.getD 0).toNat = c7
      cases a <;> cases b <;> cases c <;> simp [pkb] <;> omega
    rw [hno]
    refine sgo ?_
    refine fp4 (.inl rfl) rfl rfl rfl rfl rfl ⟨rfl, hf⟩
  have hyes : a = true ∧ b = true ∧ c = true ∧ v.length = 10 ∧ (v[4]?.getD 0).toNat = 45 ∧ (v[7]?.getD 0).toNat = 45 ∧ 1 ≤ y ∧ 1 ≤ m ∧ m ≤ 12 ∧ 1 ≤ d := by
    revert hc
    generalize (v[4]?.getD 0).toNat = c4
    generalize (v[7]?.getD 0).toNat = c7
    cases a <;> cases b <;> cases c <;> simp [pkb] <;> omega
  clear hc
  obtain ⟨rfl, rfl, rfl, g1, g2, g3, g4, g5, g6, g7⟩ := hyes
  obtain ⟨k1, k2, k3⟩ := hbb g1
  have hT : decide (v.length = 10 ∧ (v[4]?.getD 0).toNat = 45 ∧ (v[7]?.getD 0).toNat = 45) = true := decide_eq_true ⟨g1, g2, g3⟩
  rw [hT]
  have hS := (Sep.start w).grow hf
  clear hf hbb
  refine sgo ?_
  refine wl ?_ (y_arr (zs := [int 0, int 0, int 0, int 0, int 0, int 0, int 0, int 0, int 0, int 0, int 0, int 0, int 0]) [int (0 : Nat), int (31 : Nat), int (28 : Nat), int (31 : Nat), int (30 : Nat), int (31 : Nat), int (30 : Nat), int (31 : Nat), int (31 : Nat), int (30 : Nat), int (31 : Nat), int (30 : Nat), int (31 : Nat)] rfl rfl rfl (by simp [Value.cells]))
  refine salloc hS fun b13 w5 hS => ?_
  refine sgo ?_
  refine ssta (vs := [int (0 : Nat), int (31 : Nat), int (28 : Nat), int (31 : Nat), int (30 : Nat), int (31 : Nat), int (30 : Nat), int (31 : Nat), int (31 : Nat), int (30 : Nat), int (31 : Nat), int (30 : Nat), int (31 : Nat)]) hS 0 (fun w6 hS => ?_)
  refine sgo ?_
  refine wcutn (X := Unit) (fun _ => [(7, int y), (9, int m), (11, int d), (13, ptrAt (pb b13) 0)]) (fun _ w' => Sep w w' [pOwn b13 (dayL y)]) ?_ ?_
  · have hleap : pkb (decide (((y : Int) % 400) = 0)) true (pkb (decide (((y : Int) % 4) = 0)) (decide (((y : Int) % 100) ≠ 0)) false) = leapR y := by
      unfold leapR
      rw [Bool.eq_iff_iff]
      simp only [pkb_or, pkb_and, Bool.or_eq_true, Bool.and_eq_true, Bool.not_eq_true', decide_eq_true_eq, decide_eq_false_iff_not]
      omega
    rw [hleap]
    refine WC_cond rfl (fun hc => ?_) (fun hc => ?_)
    · refine sgo ?_
      refine sst_int hS 0 fun w7 hS => ?_
      refine sgo ?_
      refine ⟨(), ⟨rfl, rfl, rfl, rfl, trivial⟩, ?_⟩
      unfold dayL
      rw [hc]
      exact hS
    · refine sgo ?_
      refine ⟨(), ⟨rfl, rfl, rfl, rfl, trivial⟩, ?_⟩
      unfold dayL
      rw [hc]
      exact hS
  clear hS
  rintro _ w7 ρ hS
  have hcell := dayL_at y m g5 g6
  have hll : (dayL y).length = 13 := rfl
  generalize dayL y = L at *
  generalize daysR y m = e at *
  refine sgo ?_
  (show WC _ _ _ _ _ _ _; first | refine WC_dec rfl (fun hc => ?_) (fun hc => ?_) | refine WC_cond rfl (fun hc => ?_) (fun hc => ?_))
  · have hno : (true && (true && (true && (true && decide (1 ≤ y ∧ 1 ≤ m ∧ m ≤ 12 ∧ 1 ≤ d ∧ d ≤ e))))) = false := by simp; omega
    rw [hno]
    refine sgo ?_
    have hf := hS.frm
    refine fp4 (.inl rfl) rfl rfl rfl rfl rfl ⟨rfl, hf⟩
  · have hyes : (true && (true && (true && (true && decide (1 ≤ y ∧ 1 ≤ m ∧ m ≤ 12 ∧ 1 ≤ d ∧ d ≤ e))))) = true := by simp; omega
    rw [hyes]
    refine sgo ?_
    have hf := hS.frm
    refine fp4 (.inl rfl) rfl rfl rfl rfl rfl ⟨rfl, hf⟩
end Go.Proofs.YtjpnhaaneaikbaaDoor

/-
  Packages value and sieveref13: Color. The law ValueDays.
-/
set_option linter.unusedSimpArgs false
set_option linter.unusedVariables false
set_option linter.unnecessarySimpa false
namespace Go.Proofs.YtjpnhaaneaikbaaDoor
open Go Go.Sv Go.RowKit

/-- a hexadecimal digit's value -/
def hxN (c : Nat) : Nat := if digitR c = true then c - 48 else if 97 ≤ c ∧ c ≤ 102 then c - 97 + 10 else c - 65 + 10
def hxB (c : Nat) : Bool := digitR c || (decide (97 ≤ c ∧ c ≤ 102) || decide (65 ≤ c ∧ c ≤ 70))
theorem hxN_lt {c : Nat} (h : hxB c = true) : hxN c < 16 := by
  unfold hxN
  simp only [hxB, digitR, Bool.or_eq_true, Bool.and_eq_true, decide_eq_true_eq] at h
  split
  · rename_i hd
    simp only [digitR, Bool.and_eq_true, decide_eq_true_eq] at hd
    omega
  · rename_i hd
    simp only [digitR, Bool.and_eq_true, decide_eq_true_eq] at hd
    split <;> omega
def colS (d : Bool) (n h : Nat) : Nat := if d = true then 16 * (16 * n + h) + h else 16 * n + h
def colG (d : Bool) : List UInt8 → Nat → Option Nat
  | [], n => some n
  | c :: l, n => if hxB c.toNat = true then colG d l (colS d n (hxN c.toNat)) else none
def colR (v : List UInt8) : Option Nat := if (v.length = 4 ∨ v.length = 7) ∧ at0 v 0 = 35 then colG (decide (v.length = 4)) (v.drop 1) 0 else none
def colV : Option Nat → Value
  | some n => .tuple #[.int .u32 n, .bool true]
  | none => .tuple #[.int .u32 (0 : Nat), .bool false]
theorem colG_step {d : Bool} {v : List UInt8} {i n : Nat} (hi : i < v.length) : colG d (v.drop i) n = if hxB (v[i]?.getD 0).toNat = true then colG d (v.drop (i + 1)) (colS d n (hxN (v[i]?.getD 0).toNat)) else none := by
  rw [List.drop_eq_getElem_cons hi, colG, List.getElem?_eq_getElem hi]
  rfl
set_option maxHeartbeats 2000000 in
theorem color_ok (s : List UInt8) (hb : s.length ≤ 100000000) (w : World) : PureC Tryd.prog 21 #[str s] w (colV (colR (cleanR s))) := by
  have hl := cleanR_len s
  refine enter (l := [str s]) Tryd.func21 rfl Tryd.ntmps21 (by kernel_rfl) rfl ?_
  refine sgo ?_
  refine wlpure (inClean_ok s (by omega) _) fun w1 hf => ?_
  generalize cleanR s = v at *
  have h0 : at0 v 0 = (v[0]?.getD 0).toNat := rfl
  unfold colR
  rw [h0]
  clear h0
  refine sgo ?_
  refine WC_cond rfl (fun hc => ?_) (fun hc => ?_)
  · have hno : ¬ ((v.length = 4 ∨ v.length = 7) ∧ (v[0]?.getD 0).toNat = 35) := by
      revert hc
      simp only [pkb_or, pkb_and, Bool.or_eq_true, Bool.and_eq_true, decide_eq_true_eq]
      omega
    rw [if_neg hno]
    refine sgo ?_
    (first | refine fp1 (.inl rfl) rfl rfl ?_ | refine fp2 (.inl rfl) rfl rfl rfl ?_ | refine fp3 (.inl rfl) rfl rfl rfl rfl ?_ | refine fp0 (.inr rfl) rfl ?_ | refine fp0 (.inl rfl) rfl ?_ | refine fp1 (.inr rfl) rfl rfl ?_)
    exact ⟨rfl, hf⟩
  have hyes : (v.length = 4 ∨ v.length = 7) ∧ (v[0]?.getD 0).toNat = 35 := by
    revert hc
    simp only [pkb_or, pkb_and, Bool.or_eq_false_iff, Bool.and_eq_false_iff, decide_eq_false_iff_not]
    omega
  rw [if_pos hyes]
  clear hc
  obtain ⟨h47, -⟩ := hyes
  generalize hD : decide (v.length = 4) = D
  have hpow : ∀ i, 1 ≤ i → i ≤ v.length → (if D = true then 256 else 16) ^ (i - 1) ≤ 16777216 := by
    intro i h1 h2
    rcases h47 with h | h
    · rw [decide_eq_true h] at hD
      subst hD
      exact Nat.le_trans (Nat.pow_le_pow_right (by decide) (show i - 1 ≤ 3 by omega)) (by decide)
    · rw [decide_eq_false (by omega)] at hD
      subst hD
      exact Nat.le_trans (Nat.pow_le_pow_right (by decide) (show i - 1 ≤ 6 by omega)) (by decide)
  refine sgo ?_
  refine wcloop (X := Nat × Nat) (fun x => [(4, str v), (5, .int .u32 (x.2 : Nat)), (6, int x.1)])
    (fun x w' => 1 ≤ x.1 ∧ x.1 ≤ v.length ∧ x.2 < (if D = true then 256 else 16) ^ (x.1 - 1) ∧ colG D (v.drop x.1) x.2 = colG D (v.drop 1) 0 ∧ Frm w w') (fun x => v.length - x.1) (1, 0) ⟨rfl, rfl, rfl, trivial⟩ ⟨Nat.le_refl _, by omega, by show 0 < _ ^ 0; rw [Nat.pow_zero]; decide, rfl, hf⟩ ?_
  clear hf
  rintro ⟨i, n⟩ wr ρ ⟨h1i, hil, hn, hg, hf⟩
  dsimp only at h1i hil hn hg ⊢
  refine sgo ?_
  (show WC _ _ _ _ _ _ _; first | refine WC_dec rfl (fun hc => ?_) (fun hc => ?_) | refine WC_cond rfl (fun hc => ?_) (fun hc => ?_))
  · have hlt : i < v.length := by omega
    have hpi := hpow i h1i hil
    have hpi2 := hpow (i + 1) (by omega) hlt
    rw [show i + 1 - 1 = (i - 1) + 1 by omega, Nat.pow_succ] at hpi2
    rw [colG_step hlt] at hg
    have hc8 : (v[i]?.getD 0).toNat < 256 := UInt8.toNat_lt _
    clear hc
    refine sgo ?_
    generalize hcc : (v[i]?.getD 0).toNat = c at *
    refine wlpure (vDigit_ok _ _) fun w2 hf2 => ?_
    replace hf := hf.trans hf2
    clear hf2
    refine sgo ?_
    refine wcutj (X := Unit) (fun _ => [(4, str v), (5, .int .u32 (n : Nat)), (6, int i), (7, .int .u32 (hxN c : Nat))]) (fun _ w' => hxB c = true ∧ Frm w w') ?_ ?_
    · refine WC_cond rfl (fun hc => ?_) (fun hc => ?_)
      · have hr := digit_rng hc
        have hw : IntKind.u32.wrap ((c : Int) - 48) = (c : Int) - 48 := wrap_in (by simp [IntKind.min, IntKind.max, IntKind.signed, IntKind.bits]; omega)
        refine sgo ?_
        rw [hw]
        refine ⟨(), ⟨rfl, rfl, rfl, ?_, trivial⟩, by simp [hxB, hc], hf⟩
        show Value.int .u32 _ = .int .u32 _
        congr 1
        unfold hxN
        rw [if_pos hc]
        omega
      · have hnd := hc
        clear hc
        refine sgo ?_
        refine WC_cond rfl (fun hc => ?_) (fun hc => ?_)
        · simp only [pkb_and, Bool.and_eq_true, decide_eq_true_eq] at hc
          have hw : IntKind.u32.wrap ((c : Int) - 97) = (c : Int) - 97 := wrap_in (by simp [IntKind.min, IntKind.max, IntKind.signed, IntKind.bits]; omega)
          refine sgo ?_
          rw [hw]
          refine wl ?_ (y_addu rfl rfl (by omega))
          refine sgo ?_
          refine ⟨(), ⟨rfl, rfl, rfl, ?_, trivial⟩, by simp [hxB]; omega, hf⟩
          show Value.int .u32 _ = .int .u32 _
          congr 1
          unfold hxN
          rw [hnd, if_neg (by decide), if_pos (by omega)]
          omega
        · simp only [pkb_and, Bool.and_eq_false_iff, decide_eq_false_iff_not] at hc
          have h97 : ¬ (97 ≤ c ∧ c ≤ 102) := by omega
          clear hc
          refine sgo ?_
          refine WC_cond rfl (fun hc => ?_) (fun hc => ?_)
          · simp only [pkb_and, Bool.and_eq_true, decide_eq_true_eq] at hc
            have hw : IntKind.u32.wrap ((c : Int) - 65) = (c : Int) - 65 := wrap_in (by simp [IntKind.min, IntKind.max, IntKind.signed, IntKind.bits]; omega)
            refine sgo ?_
            rw [hw]
            refine wl ?_ (y_addu rfl rfl (by omega))
            refine sgo ?_
            refine ⟨(), ⟨rfl, rfl, rfl, ?_, trivial⟩, by simp [hxB]; omega, hf⟩
            show Value.int .u32 _ = .int .u32 _
            congr 1
            unfold hxN
            rw [hnd, if_neg (by decide), if_neg h97]
            omega
          · simp only [pkb_and, Bool.and_eq_false_iff, decide_eq_false_iff_not] at hc
            have hno : hxB c = false := by
              unfold hxB
              rw [hnd, Bool.false_or, Bool.or_eq_false_iff, decide_eq_false_iff_not, decide_eq_false_iff_not]
              omega
            rw [hno, if_neg (by decide)] at hg
            rw [← hg]
            refine sgo ?_
            (first | refine fp1 (.inl rfl) rfl rfl ?_ | refine fp2 (.inl rfl) rfl rfl rfl ?_ | refine fp3 (.inl rfl) rfl rfl rfl rfl ?_ | refine fp0 (.inr rfl) rfl ?_ | refine fp0 (.inl rfl) rfl ?_ | refine fp1 (.inr rfl) rfl rfl ?_)
            exact ⟨rfl, hf⟩
    · clear hf
      rintro _ w3 ρ2 ⟨hx, hf⟩
      have hh16 := hxN_lt hx
      rw [hx, if_pos rfl] at hg
      generalize hxN c = h at *
      refine sgo ?_
      rw [or4u n h (by omega) hh16]
      refine WC_cond rfl (fun hc => ?_) (fun hc => ?_)
      · have hDt : D = true := by rw [← hD, decide_eq_true_eq]; simp only [decide_eq_true_eq] at hc; omega
        subst hDt
        rw [if_pos rfl] at hn hpi hpi2
        refine sgo ?_
        rw [or4u (16 * n + h) h (by omega) hh16]
        refine ⟨(i + 1, colS true n h), ⟨rfl, rfl, rfl, trivial⟩, ⟨by dsimp only; omega, by dsimp only; omega, ?_, hg, hf⟩, by dsimp only; omega⟩
        dsimp only [colS]
        rw [if_pos rfl, if_pos rfl, show i + 1 - 1 = (i - 1) + 1 by omega, Nat.pow_succ]
        omega
      · have hDf : D = false := by rw [← hD, decide_eq_false_iff_not]; simp only [decide_eq_false_iff_not] at hc; omega
        subst hDf
        rw [if_neg (by decide)] at hn hpi hpi2
        refine sgo ?_
        refine ⟨(i + 1, colS false n h), ⟨rfl, rfl, rfl, trivial⟩, ⟨by dsimp only; omega, by dsimp only; omega, ?_, hg, hf⟩, by dsimp only; omega⟩
        dsimp only [colS]
        rw [if_neg (by decide), if_neg (by decide), show i + 1 - 1 = (i - 1) + 1 by omega, Nat.pow_succ]
        omega
  · obtain rfl : i = v.length := by omega
    rw [List.drop_length, colG] at hg
    rw [← hg]
    refine sgo ?_
    (first | refine fp1 (.inl rfl) rfl rfl ?_ | refine fp2 (.inl rfl) rfl rfl rfl ?_ | refine fp3 (.inl rfl) rfl rfl rfl rfl ?_ | refine fp0 (.inr rfl) rfl ?_ | refine fp0 (.inl rfl) rfl ?_ | refine fp1 (.inr rfl) rfl rfl ?_)
    exact ⟨rfl, hf⟩
set_option maxHeartbeats 2000000 in
theorem refColor_ok (s : List UInt8) (hb : s.length ≤ 100000000) (w : World) : PureC Tryd.prog 22 #[str s] w (colV (colR (cleanR s))) := by
  have hl := cleanR_len s
  refine enter (l := [str s]) Tryd.func22 rfl Tryd.ntmps22 (by kernel_rfl) rfl ?_
  refine sgo ?_
  refine wlpure (refClean_ok s (by omega) _) fun w1 hf => ?_
  generalize cleanR s = v at *
  have h0 : at0 v 0 = (v[0]?.getD 0).toNat := rfl
  unfold colR
  rw [h0]
  clear h0
  refine sgo ?_
  refine WC_cond rfl (fun hc => ?_) (fun hc => ?_)
  · have hno : ¬ ((v.length = 4 ∨ v.length = 7) ∧ (v[0]?.getD 0).toNat = 35) := by
      revert hc
      simp only [pkb_or, pkb_and, Bool.or_eq_true, Bool.and_eq_true, decide_eq_true_eq]
      omega
    rw [if_neg hno]
    refine sgo ?_
    (first | refine fp1 (.inl rfl) rfl rfl ?_ | refine fp2 (.inl rfl) rfl rfl rfl ?_ | refine fp3 (.inl rfl) rfl rfl rfl rfl ?_ | refine fp0 (.inr rfl) rfl ?_ | refine fp0 (.inl rfl) rfl ?_ | refine fp1 (.inr rfl) rfl rfl ?_)
    exact ⟨rfl, hf⟩
  have hyes : (v.length = 4 ∨ v.length = 7) ∧ (v[0]?.getD 0).toNat = 35 := by
    revert hc
    simp only [pkb_or, pkb_and, Bool.or_eq_false_iff, Bool.and_eq_false_iff, decide_eq_false_iff_not]
    omega
  rw [if_pos hyes]
  clear hc
  obtain ⟨h47, -⟩ := hyes
  generalize hD : decide (v.length = 4) = D
  have hpow : ∀ i, 1 ≤ i → i ≤ v.length → (if D = true then 256 else 16) ^ (i - 1) ≤ 16777216 := by
    intro i h1 h2
    rcases h47 with h | h
    · rw [decide_eq_true h] at hD
      subst hD
      exact Nat.le_trans (Nat.pow_le_pow_right (by decide) (show i - 1 ≤ 3 by omega)) (by decide)
    · rw [decide_eq_false (by omega)] at hD
      subst hD
      exact Nat.le_trans (Nat.pow_le_pow_right (by decide) (show i - 1 ≤ 6 by omega)) (by decide)
  refine sgo ?_
  refine wcloop (X := Nat × Nat) (fun x => [(4, str v), (5, .int .u32 (x.2 : Nat)), (6, int x.1)])
    (fun x w' => 1 ≤ x.1 ∧ x.1 ≤ v.length ∧ x.2 < (if D = true then 256 else 16) ^ (x.1 - 1) ∧ colG D (v.drop x.1) x.2 = colG D (v.drop 1) 0 ∧ Frm w w') (fun x => v.length - x.1) (1, 0) ⟨rfl, rfl, rfl, trivial⟩ ⟨Nat.le_refl _, by omega, by show 0 < _ ^ 0; rw [Nat.pow_zero]; decide, rfl, hf⟩ ?_
  clear hf
  rintro ⟨i, n⟩ wr ρ ⟨h1i, hil, hn, hg, hf⟩
  dsimp only at h1i hil hn hg ⊢
  refine sgo ?_
  (show WC _ _ _ _ _ _ _; first | refine WC_dec rfl (fun hc => ?_) (fun hc => ?_) | refine WC_cond rfl (fun hc => ?_) (fun hc => ?_))
  · have hlt : i < v.length := by omega
    have hpi := hpow i h1i hil
    have hpi2 := hpow (i + 1) (by omega) hlt
    rw [show i + 1 - 1 = (i - 1) + 1 by omega, Nat.pow_succ] at hpi2
    rw [colG_step hlt] at hg
    have hc8 : (v[i]?.getD 0).toNat < 256 := UInt8.toNat_lt _
    clear hc
    refine sgo ?_
    generalize hcc : (v[i]?.getD 0).toNat = c at *
    refine wlpure (r13Digit_ok _ _) fun w2 hf2 => ?_
    replace hf := hf.trans hf2
    clear hf2
    refine sgo ?_
    refine wcutj (X := Unit) (fun _ => [(4, str v), (5, .int .u32 (n : Nat)), (6, int i), (7, .int .u32 (hxN c : Nat))]) (fun _ w' => hxB c = true ∧ Frm w w') ?_ ?_
    · refine WC_cond rfl (fun hc => ?_) (fun hc => ?_)
      · have hr := digit_rng hc
        have hw : IntKind.u32.wrap ((c : Int) - 48) = (c : Int) - 48 := wrap_in (by simp [IntKind.min, IntKind.max, IntKind.signed, IntKind.bits]; omega)
        refine sgo ?_
        rw [hw]
        refine ⟨(), ⟨rfl, rfl, rfl, ?_, trivial⟩, by simp [hxB, hc], hf⟩
        show Value.int .u32 _ = .int .u32 _
        congr 1
        unfold hxN
        rw [if_pos hc]
        omega
      · have hnd := hc
        clear hc
        refine sgo ?_
        refine WC_cond rfl (fun hc => ?_) (fun hc => ?_)
        · simp only [pkb_and, Bool.and_eq_true, decide_eq_true_eq] at hc
          have hw : IntKind.u32.wrap ((c : Int) - 97) = (c : Int) - 97 := wrap_in (by simp [IntKind.min, IntKind.max, IntKind.signed, IntKind.bits]; omega)
          refine sgo ?_
          rw [hw]
          refine wl ?_ (y_addu rfl rfl (by omega))
          refine sgo ?_
          refine ⟨(), ⟨rfl, rfl, rfl, ?_, trivial⟩, by simp [hxB]; omega, hf⟩
          show Value.int .u32 _ = .int .u32 _
          congr 1
          unfold hxN
          rw [hnd, if_neg (by decide), if_pos (by omega)]
          omega
        · simp only [pkb_and, Bool.and_eq_false_iff, decide_eq_false_iff_not] at hc
          have h97 : ¬ (97 ≤ c ∧ c ≤ 102) := by omega
          clear hc
          refine sgo ?_
          refine WC_cond rfl (fun hc => ?_) (fun hc => ?_)
          · simp only [pkb_and, Bool.and_eq_true, decide_eq_true_eq] at hc
            have hw : IntKind.u32.wrap ((c : Int) - 65) = (c : Int) - 65 := wrap_in (by simp [IntKind.min, IntKind.max, IntKind.signed, IntKind.bits]; omega)
            refine sgo ?_
            rw [hw]
            refine wl ?_ (y_addu rfl rfl (by omega))
            refine sgo ?_
            refine ⟨(), ⟨rfl, rfl, rfl, ?_, trivial⟩, by simp [hxB]; omega, hf⟩
            show Value.int .u32 _ = .int .u32 _
            congr 1
            unfold hxN
            rw [hnd, if_neg (by decide), if_neg h97]
            omega
          · simp only [pkb_and, Bool.and_eq_false_iff, decide_eq_false_iff_not] at hc
            have hno : hxB c = false := by
              unfold hxB
              rw [hnd, Bool.false_or, Bool.or_eq_false_iff, decide_eq_false_iff_not, decide_eq_false_iff_not]
              omega
            rw [hno, if_neg (by decide)] at hg
            rw [← hg]
            refine sgo ?_
            (first | refine fp1 (.inl rfl) rfl rfl ?_ | refine fp2 (.inl rfl) rfl rfl rfl ?_ | refine fp3 (.inl rfl) rfl rfl rfl rfl ?_ | refine fp0 (.inr rfl) rfl ?_ | refine fp0 (.inl rfl) rfl ?_ | refine fp1 (.inr rfl) rfl rfl ?_)
            exact ⟨rfl, hf⟩
    · clear hf
      rintro _ w3 ρ2 ⟨hx, hf⟩
      have hh16 := hxN_lt hx
      rw [hx, if_pos rfl] at hg
      generalize hxN c = h at *
      refine sgo ?_
      refine wl ?_ (y_mulu rfl rfl (by omega))
      refine sgo ?_
      refine wl ?_ (y_addu rfl rfl (by omega))
      refine sgo ?_
      refine WC_cond rfl (fun hc => ?_) (fun hc => ?_)
      · have hDt : D = true := by rw [← hD, decide_eq_true_eq]; simp only [decide_eq_true_eq] at hc; omega
        subst hDt
        rw [if_pos rfl] at hn hpi hpi2
        refine sgo ?_
        refine wl ?_ (y_mulu rfl rfl (by omega))
        refine sgo ?_
        refine wl ?_ (y_addu rfl rfl (by omega))
        refine sgo ?_
        refine ⟨(i + 1, colS true n h), ⟨rfl, by show Value.int .u32 _ = .int .u32 _; congr 1, rfl, trivial⟩, ⟨by dsimp only; omega, by dsimp only; omega, ?_, hg, hf⟩, by dsimp only; omega⟩
        dsimp only [colS]
        rw [if_pos rfl, if_pos rfl, show i + 1 - 1 = (i - 1) + 1 by omega, Nat.pow_succ]
        omega
      · have hDf : D = false := by rw [← hD, decide_eq_false_iff_not]; simp only [decide_eq_false_iff_not] at hc; omega
        subst hDf
        rw [if_neg (by decide)] at hn hpi hpi2
        refine sgo ?_
        refine ⟨(i + 1, colS false n h), ⟨rfl, by show Value.int .u32 _ = .int .u32 _; congr 1, rfl, trivial⟩, ⟨by dsimp only; omega, by dsimp only; omega, ?_, hg, hf⟩, by dsimp only; omega⟩
        dsimp only [colS]
        rw [if_neg (by decide), if_neg (by decide), show i + 1 - 1 = (i - 1) + 1 by omega, Nat.pow_succ]
        omega
  · obtain rfl : i = v.length := by omega
    rw [List.drop_length, colG] at hg
    rw [← hg]
    refine sgo ?_
    (first | refine fp1 (.inl rfl) rfl rfl ?_ | refine fp2 (.inl rfl) rfl rfl rfl ?_ | refine fp3 (.inl rfl) rfl rfl rfl rfl ?_ | refine fp0 (.inr rfl) rfl ?_ | refine fp0 (.inl rfl) rfl ?_ | refine fp1 (.inr rfl) rfl rfl ?_)
    exact ⟨rfl, hf⟩

theorem dateR_form (v : List UInt8) : ∃ (y m d : Nat) (ok : Bool), dateR v = .tuple #[int y, int m, int d, .bool ok] := by
  unfold dateR dateV
  split
  · exact ⟨_, _, _, _, rfl⟩
  · exact ⟨_, _, _, _, rfl⟩
theorem colV_form (r : Option Nat) : ∃ (n : Nat) (ok : Bool), colV r = .tuple #[.int .u32 n, .bool ok] := by
  cases r
  · exact ⟨_, _, rfl⟩
  · exact ⟨_, _, rfl⟩
set_option maxHeartbeats 2000000 in
theorem valueDays_ok (v : List UInt8) (hb : v.length ≤ 1048576) (w : World) : PureC Tryd.prog 7 #[str v] w (.bool true) := by
  have h1 := fun w => date_ok v (by omega) w
  have h2 := fun w => refDate_ok v (by omega) w
  have h3 := fun w => color_ok v (by omega) w
  have h4 := fun w => refColor_ok v (by omega) w
  obtain ⟨y, m, d, ok, hD⟩ := dateR_form (cleanR v)
  obtain ⟨n, ok2, hC⟩ := colV_form (colR (cleanR v))
  rw [hD] at h1 h2
  rw [hC] at h3 h4
  refine enter (l := [str v]) Tryd.func7 rfl Tryd.ntmps7 (by kernel_rfl) rfl ?_
  refine sgo ?_
  refine wlpure (h1 _) fun w1 hf1 => ?_
  refine sgo ?_
  refine wlpure (h2 _) fun w2 hf2 => ?_
  refine sgo ?_
  refine wlpure (h3 _) fun w3 hf3 => ?_
  refine sgo ?_
  refine wlpure (h4 _) fun w4 hf4 => ?_
  refine sgo ?_
  refine wlcallgp (vals := []) (fun _ => lives13_ok _) (fun w5 hf5 => ?_) (ha := fun _ => rfl)
  refine sgo ?_
  have hf := (((hf1.trans hf2).trans hf3).trans hf4).trans hf5
  clear hf1 hf2 hf3 hf4 hf5
  (first | refine fp1 (.inl rfl) rfl rfl ?_ | refine fp2 (.inl rfl) rfl rfl rfl ?_ | refine fp3 (.inl rfl) rfl rfl rfl rfl ?_ | refine fp0 (.inr rfl) rfl ?_ | refine fp0 (.inl rfl) rfl ?_ | refine fp1 (.inr rfl) rfl rfl ?_); refine ⟨?_, by (first | exact Frm.refl _ | assumption | exact Go.Sv.Sep.frm (by assumption) | (refine Frm.trans ?_ (by assumption); first | exact Frm.refl _ | assumption))⟩; (try simp only [realB, rv_true, Nat.reduceBEq, cond_true, cond_false, entG, real_lif, updGL])
  refine congrArg Value.bool ?_
  simp [pkb]
end Go.Proofs.YtjpnhaaneaikbaaDoor

