/-
  Package utf: 'read' and 'Valid'.
-/
import Derived.Test.YtffaoehhhdcjjaaSvUtfA
set_option linter.unusedSimpArgs false
set_option linter.unusedVariables false
set_option linter.unnecessarySimpa false
namespace Go.Proofs.Ytffaoehhhdcjjaa
open Go Go.Sv Go.RowKit
theorem or_step (r x : Nat) (h1 : r < 33554432) (hx : x < 256) : bitop .or .i32 (IntKind.i32.wrap ((r : Int) * 2 ^ (min (6 : Int).toNat IntKind.i32.bits))) (IntKind.i32.wrap (bitop .and .u8 (x : Int) 63)) = ((r * 64 + x % 64 : Nat) : Int) := by
  rw [shl6 r (by omega) (by omega), mask6 x hx, wrap_in (k := .i32) (n := ((x % 64 : Nat) : Int)) (by simp [IntKind.min, IntKind.max, IntKind.signed, IntKind.bits]; omega), or6 r (x % 64) h1 (by omega)]
  simp

set_option maxHeartbeats 1000000 in
theorem read_ok (l : List UInt8) (p : Option Addr) (c : Nat) (h0 : 0 < l.length) (hc : l.length ≤ c) (hb : l.length < 4611686018427387904) (M : List Nat) (w : World) (hi : Im M w p (bs l)) :
    PureC Try.prog 70 #[.slice p l.length c] w (.tuple #[i32 (readS l).1, int (readS l).2.1, int (readS l).2.2]) := by
  have hr := boundsS_rng (at0 l 0)
  refine enter (l := [.slice p l.length c]) Try.func70 rfl Try.ntmps70 (by kernel_rfl) rfl ?_
  refine sgo ?_
  refine wlpure (bounds_ok (at0 l 0) _) fun w1 hw1 => ?_
  replace hi := hi.frm hw1
  repeat' (first | (first | (show WL _ _ _ _ _ _ _ _; (first | refine wlp ?_ | refine WL_nil ?_ | (show WL _ _ _ _ _ (Go.Oper.mk _ _ _ _ _ none :: _) _ _; first | refine wlpk ?_ | refine wl_load ?_ | refine wl_idxa ?_ | refine wl_fld ?_ | refine wl_idx ?_ | refine wl_len ?_ | refine wl_bin ?_ | refine wl_cnv ?_ | refine wl_slc ?_ | refine wl_una ?_ | refine wl_nilc ?_ | refine wl_mkf ?_) | refine wlpg ?_ | refine wlg_load ?_ | refine wlg_idxa ?_ | refine wlg_fld ?_ | refine wlg_idx ?_ | refine wlg_len ?_ | refine wlg_bin ?_ | refine wlg_cnv ?_ | refine wlg_slc ?_ | refine wlg_una ?_ | refine wlg_nilc ?_ | refine wlg_mkf ?_)) | (show thn _ _ _ _ _ _; (first | refine thn_normal ?_ | refine thn_ret ?_ | refine thn_exit ?_)) | (show thl _ _ _ _ _ _ _; (first | refine thl_normal ?_ | refine thl_ret ?_ | refine thl_exit ?_)) | (show WC _ _ _ _ _ _ _; (first | refine WC_seq ?_ | refine WC_region ?_ | refine WC_ret ?_ | refine WC_skip ?_ | refine WC_block ?_ | refine WC_exit ?_ | refine WC_label ?_ | refine WC_scope rfl ?_ | refine wcyes ?_ | refine wcno ?_)) | (show blk _ _ _ _ _ _; (first | refine blk_ret ?_ | refine blk_here ?_ | refine blk_on rfl ?_ | refine blk_normal ?_)) | (show ngt _ _ _ _ _; (first | refine ngt_normal ?_ | refine ngt_ret ?_ | refine ngt_exit ?_))) | (show WC _ _ _ _ _ _ _; first | refine WC_dec rfl (fun hc => ?_) (fun hc => ?_) | refine WC_cond rfl (fun hc => ?_) (fun hc => ?_)))
  · (first | refine fp1 (.inl rfl) rfl rfl ?_ | refine fp2 (.inl rfl) rfl rfl rfl ?_ | refine fp3 (.inl rfl) rfl rfl rfl rfl ?_ | refine fp0 (.inr rfl) rfl ?_ | refine fp0 (.inl rfl) rfl ?_ | refine fp1 (.inr rfl) rfl rfl ?_); refine ⟨?_, by (first | exact Frm.refl _ | assumption | (refine Frm.trans ?_ (by assumption); first | exact Frm.refl _ | assumption))⟩; (try simp only [realB, rv_true, Nat.reduceBEq, cond_true, cond_false, entG, real_lif, updGL])
    simp only [readS]; rw [if_pos (by omega)]
  · (first | refine fp1 (.inl rfl) rfl rfl ?_ | refine fp2 (.inl rfl) rfl rfl rfl ?_ | refine fp3 (.inl rfl) rfl rfl rfl rfl ?_ | refine fp0 (.inr rfl) rfl ?_ | refine fp0 (.inl rfl) rfl ?_ | refine fp1 (.inr rfl) rfl rfl ?_); refine ⟨?_, by (first | exact Frm.refl _ | assumption | (refine Frm.trans ?_ (by assumption); first | exact Frm.refl _ | assumption))⟩; (try simp only [realB, rv_true, Nat.reduceBEq, cond_true, cond_false, entG, real_lif, updGL])
    simp only [readS]; rw [if_neg (by omega), if_pos (by omega)]
  · rename_i hc1 hc2
    (first | refine WC_seq ?_ | skip); refine wcdraw ?_
    refine qgo ?_
    refine QL_nil ?_; intro wd hwd
    replace hi := hi.frm hwd
    have hw2 : Frm w wd := hw1.trans hwd
    generalize hB : boundsS (at0 l 0) = B at *
    obtain ⟨more, lo, hi'⟩ := B
    simp only at *
    obtain ⟨m, rfl⟩ := Int.eq_ofNat_of_zero_le (a := more) (by omega)
    have hS : readS l = rdLoop l m m 1 (at0 l 0 % 2 ^ (6 - m) : Nat) lo hi' := by
      simp only [readS, hB]; rw [if_neg (by omega), if_neg (by omega)]; rfl
    have hr0 : at0 l 0 % 2 ^ (6 - m) < 32 := by
      have : m = 1 ∨ m = 2 ∨ m = 3 := by omega
      rcases this with rfl | rfl | rfl <;> simp <;> omega
    refine sgo ?_
    refine wcloop (X := Nat × Nat × Int × Int) (fun x => [(0, .slice p l.length c), (5, int m), (6, byt x.2.2.1), (7, byt x.2.2.2), (8, i32 x.2.1), (9, int x.1)])
      (fun x wr => 1 ≤ x.1 ∧ x.1 ≤ m + 1 ∧ x.1 ≤ l.length ∧ (x.1 ≤ 3 → x.2.1 < 32 * 64 ^ (x.1 - 1)) ∧ 0 ≤ x.2.2.1 ∧ x.2.2.1 ≤ 255 ∧ 0 ≤ x.2.2.2 ∧ x.2.2.2 ≤ 255 ∧ readS l = rdLoop l m (m + 1 - x.1) x.1 x.2.1 x.2.2.1 x.2.2.2 ∧ Frm w wr ∧ Im M wr p (bs l))
      (fun x => m + 1 - x.1) (1, at0 l 0 % 2 ^ (6 - m), lo, hi') ⟨rfl, rfl, rfl, rfl, ?_, rfl, trivial⟩ ?_ ?_
    · show i32 _ = i32 _
      exact congrArg i32 (mask_first (at0 l 0) m (at0_lt l 0) (by omega) (by omega))
    · dsimp only; exact ⟨Nat.le_refl _, by omega, by omega, by intro _; simpa using hr0, by omega, by omega, by omega, by omega, by simpa using hS, hw2, hi⟩
    · rintro ⟨i, r, lo2, hi2⟩ wr ρ ⟨hi1, him, hil, hr1, hl0, hl1, hh0, hh1, hSr, hfr, hIm⟩
      dsimp only at hi1 him hil hr1 hl0 hl1 hh0 hh1 hSr ⊢
      repeat' (first | (first | (show WL _ _ _ _ _ _ _ _; (first | refine wlp ?_ | refine WL_nil ?_ | (show WL _ _ _ _ _ (Go.Oper.mk _ _ _ _ _ none :: _) _ _; first | refine wlpk ?_ | refine wl_load ?_ | refine wl_idxa ?_ | refine wl_fld ?_ | refine wl_idx ?_ | refine wl_len ?_ | refine wl_bin ?_ | refine wl_cnv ?_ | refine wl_slc ?_ | refine wl_una ?_ | refine wl_nilc ?_ | refine wl_mkf ?_) | refine wlpg ?_ | refine wlg_load ?_ | refine wlg_idxa ?_ | refine wlg_fld ?_ | refine wlg_idx ?_ | refine wlg_len ?_ | refine wlg_bin ?_ | refine wlg_cnv ?_ | refine wlg_slc ?_ | refine wlg_una ?_ | refine wlg_nilc ?_ | refine wlg_mkf ?_)) | (show thn _ _ _ _ _ _; (first | refine thn_normal ?_ | refine thn_ret ?_ | refine thn_exit ?_)) | (show thl _ _ _ _ _ _ _; (first | refine thl_normal ?_ | refine thl_ret ?_ | refine thl_exit ?_)) | (show WC _ _ _ _ _ _ _; (first | refine WC_seq ?_ | refine WC_region ?_ | refine WC_ret ?_ | refine WC_skip ?_ | refine WC_block ?_ | refine WC_exit ?_ | refine WC_label ?_ | refine WC_scope rfl ?_ | refine wcyes ?_ | refine wcno ?_)) | (show blk _ _ _ _ _ _; (first | refine blk_ret ?_ | refine blk_here ?_ | refine blk_on rfl ?_ | refine blk_normal ?_)) | (show ngt _ _ _ _ _; (first | refine ngt_normal ?_ | refine ngt_ret ?_ | refine ngt_exit ?_))) | (show WC _ _ _ _ _ _ _; first | refine WC_dec rfl (fun hc => ?_) (fun hc => ?_) | refine WC_cond rfl (fun hc => ?_) (fun hc => ?_)))
      · -- the bytes end
        (first | refine fp1 (.inl rfl) rfl rfl ?_ | refine fp2 (.inl rfl) rfl rfl rfl ?_ | refine fp3 (.inl rfl) rfl rfl rfl rfl ?_ | refine fp0 (.inr rfl) rfl ?_ | refine fp0 (.inl rfl) rfl ?_ | refine fp1 (.inr rfl) rfl rfl ?_)
        refine ⟨?_, hfr⟩
        have e : m + 1 - i = (m - i) + 1 := by omega
        rw [hSr, e, rdLoop, if_pos (by omega)]; rfl
      · -- a byte that may not be there
        (first | refine fp1 (.inl rfl) rfl rfl ?_ | refine fp2 (.inl rfl) rfl rfl rfl ?_ | refine fp3 (.inl rfl) rfl rfl rfl rfl ?_ | refine fp0 (.inr rfl) rfl ?_ | refine fp0 (.inl rfl) rfl ?_ | refine fp1 (.inr rfl) rfl rfl ?_)
        refine ⟨?_, hfr⟩
        have e : m + 1 - i = (m - i) + 1 := by omega
        rw [pkb_or, Bool.or_eq_true, decide_eq_true_eq, decide_eq_true_eq] at hc
        rw [hSr, e, rdLoop, if_neg (by omega), if_pos hc]; rfl
      · -- on
        rw [pkb_or, Bool.or_eq_false_iff, decide_eq_false_iff_not, decide_eq_false_iff_not] at hc
        have hb6 : at0 l i < 256 := at0_lt l i
        have hr2 := hr1 (by omega)
        have hr3 : r < 131072 := by
          have : i = 1 ∨ i = 2 ∨ i = 3 := by omega
          rcases this with h | h | h <;> subst h <;> simp at hr2 <;> omega
        refine ⟨(i + 1, r * 64 + at0 l i % 64, 128, 191), ⟨rfl, rfl, rfl, rfl, ?_, ?_, trivial⟩, ⟨?_, ?_, ?_, ?_, ?_, ?_, ?_, ?_, ?_, hfr, hIm⟩, ?_⟩
        · exact congrArg i32 (or_step r (at0 l i) (by omega) hb6)
        · rfl
        all_goals dsimp only
        all_goals first | omega | skip
        · intro hi3
          have : i = 1 ∨ i = 2 ∨ i = 3 := by omega
          rcases this with h | h | h <;> subst h <;> simp at hr2 ⊢ <;> omega
        · have e : m + 1 - i = (m - i) + 1 := by omega
          rw [hSr, e, rdLoop, if_neg (by omega), if_neg (by simp only [at0]; omega)]
          have e2 : m + 1 - (i + 1) = m - i := by omega
          rw [e2]; simp
      · -- all are there
        (first | refine fp1 (.inl rfl) rfl rfl ?_ | refine fp2 (.inl rfl) rfl rfl rfl ?_ | refine fp3 (.inl rfl) rfl rfl rfl rfl ?_ | refine fp0 (.inr rfl) rfl ?_ | refine fp0 (.inl rfl) rfl ?_ | refine fp1 (.inr rfl) rfl rfl ?_)
        refine ⟨?_, hfr⟩
        have e : m + 1 - i = 0 := by omega
        rw [hSr, e, rdLoop]; rfl

theorem read_any (l : List UInt8) (p : Option Addr) (n c : Nat) (hn : n = l.length) (h0 : 0 < l.length) (hc : l.length ≤ c) (hb : l.length < 4611686018427387904) (M : List Nat) (w : World) (hi : Im M w p (bs l)) :
    PureC Try.prog 70 #[.slice p n c] w (.tuple #[i32 (readS l).1, int (readS l).2.1, int (readS l).2.2]) := by subst hn; exact read_ok l p c h0 hc hb M w hi

theorem rdLoop_rng (l : List UInt8) (more : Nat) : ∀ (f i : Nat) (r lo hi : Int), i + f = more + 1 → 1 ≤ i → i ≤ l.length →
    1 ≤ (rdLoop l more f i r lo hi).2.1 ∧ (rdLoop l more f i r lo hi).2.1 ≤ l.length ∧ 0 ≤ (rdLoop l more f i r lo hi).2.2 ∧ (rdLoop l more f i r lo hi).2.2 ≤ 2
  | 0, i, r, lo, hi, h, h1, h2 => by simp only [rdLoop]; omega
  | f + 1, i, r, lo, hi, h, h1, h2 => by
    simp only [rdLoop]
    split
    · simp only []; omega
    · split
      · simp only []; omega
      · exact rdLoop_rng l more f (i + 1) _ _ _ (by omega) (by omega) (by omega)
theorem readS_rng (l : List UInt8) (h0 : 0 < l.length) : 1 ≤ (readS l).2.1 ∧ (readS l).2.1 ≤ l.length ∧ 0 ≤ (readS l).2.2 ∧ (readS l).2.2 ≤ 2 := by
  have hr := boundsS_rng (at0 l 0)
  unfold readS
  split
  · simp only []; omega
  · split
    · simp only []; omega
    · exact rdLoop_rng l _ _ 1 _ _ _ (by omega) (by omega) (by omega)

def validF : Nat → List UInt8 → Bool
  | 0, _ => true
  | f + 1, l => if l = [] then true else if (readS l).2.2 ≠ 0 then false else validF f (l.drop (readS l).2.1.toNat)
def validS (l : List UInt8) : Bool := validF l.length l
theorem validF_more : ∀ (f f' : Nat) (l : List UInt8), l.length ≤ f → l.length ≤ f' → validF f l = validF f' l
  | 0, f', l, h, _ => by
    have : l = [] := List.eq_nil_of_length_eq_zero (by omega)
    subst this
    cases f' <;> simp [validF]
  | f + 1, 0, l, _, h => by
    have : l = [] := List.eq_nil_of_length_eq_zero (by omega)
    subst this
    simp [validF]
  | f + 1, f' + 1, l, h, h' => by
    simp only [validF]
    split
    · rfl
    · rename_i hne
      split
      · rfl
      · have hl : 0 < l.length := List.length_pos_iff.2 hne
        have := readS_rng l hl
        exact validF_more f f' _ (by simp; omega) (by simp; omega)
theorem validS_cons (l : List UInt8) (h0 : 0 < l.length) : validS l = if (readS l).2.2 ≠ 0 then false else validS (l.drop (readS l).2.1.toNat) := by
  have hne : l ≠ [] := List.length_pos_iff.1 h0
  have := readS_rng l h0
  unfold validS
  obtain ⟨k, hk⟩ : ∃ k, l.length = k + 1 := ⟨l.length - 1, by omega⟩
  rw [hk]
  simp only [validF]
  rw [if_neg hne]
  split
  · rfl
  · exact validF_more _ _ _ (by simp; omega) (Nat.le_refl _)
theorem validS_nil : validS [] = true := rfl



































end Go.Proofs.Ytffaoehhhdcjjaa
