/-
  Package sieveref01: what the reference of layer 1 computes: good, Pieces, Valid.
-/
import Derived.Test.YtffaoehhhdcjjaaSvUtf
set_option linter.unusedSimpArgs false
set_option linter.unusedVariables false
set_option linter.unnecessarySimpa false
namespace Go.Proofs.Ytffaoehhhdcjjaa
open Go Go.Sv Go.RowKit

def sizeR (c : Nat) : Nat := if c < 0x80 then 1 else if 0xC2 ≤ c ∧ c ≤ 0xDF then 2 else if 0xE0 ≤ c ∧ c ≤ 0xEF then 3 else if 0xF0 ≤ c ∧ c ≤ 0xF4 then 4 else 0
def secondR (c d : Nat) : Bool :=
  if c = 0xE0 then decide (0xA0 ≤ d) && decide (d ≤ 0xBF) else if c = 0xED then decide (0x80 ≤ d) && decide (d ≤ 0x9F) else if c = 0xF0 then decide (0x90 ≤ d) && decide (d ≤ 0xBF)
  else if c = 0xF4 then decide (0x80 ≤ d) && decide (d ≤ 0x8F) else decide (0x80 ≤ d) && decide (d ≤ 0xBF)

theorem size_ok (c : Nat) (w : World) : PureC Try.prog 73 #[byt c] w (int (sizeR c)) := by
  refine enter (l := [byt c]) Try.func73 rfl Try.ntmps73 (by kernel_rfl) rfl ?_
  repeat' (first | (first | (show WL _ _ _ _ _ _ _ _; (first | refine wlp ?_ | refine WL_nil ?_ | (show WL _ _ _ _ _ (Go.Oper.mk _ _ _ _ _ none :: _) _ _; first | refine wlpk ?_ | refine wl_load ?_ | refine wl_idxa ?_ | refine wl_fld ?_ | refine wl_idx ?_ | refine wl_len ?_ | refine wl_bin ?_ | refine wl_cnv ?_ | refine wl_slc ?_ | refine wl_una ?_ | refine wl_nilc ?_ | refine wl_mkf ?_) | refine wlpg ?_ | refine wlg_load ?_ | refine wlg_idxa ?_ | refine wlg_fld ?_ | refine wlg_idx ?_ | refine wlg_len ?_ | refine wlg_bin ?_ | refine wlg_cnv ?_ | refine wlg_slc ?_ | refine wlg_una ?_ | refine wlg_nilc ?_ | refine wlg_mkf ?_)) | (show thn _ _ _ _ _ _; (first | refine thn_normal ?_ | refine thn_ret ?_ | refine thn_exit ?_)) | (show thl _ _ _ _ _ _ _; (first | refine thl_normal ?_ | refine thl_ret ?_ | refine thl_exit ?_)) | (show WC _ _ _ _ _ _ _; (first | refine WC_seq ?_ | refine WC_region ?_ | refine WC_ret ?_ | refine WC_skip ?_ | refine WC_block ?_ | refine WC_exit ?_ | refine WC_label ?_ | refine WC_scope rfl ?_ | refine wcyes ?_ | refine wcno ?_)) | (show blk _ _ _ _ _ _; (first | refine blk_ret ?_ | refine blk_here ?_ | refine blk_on rfl ?_ | refine blk_normal ?_)) | (show ngt _ _ _ _ _; (first | refine ngt_normal ?_ | refine ngt_ret ?_ | refine ngt_exit ?_))) | (show WC _ _ _ _ _ _ _; first | refine WC_dec rfl (fun hc => ?_) (fun hc => ?_) | refine WC_cond rfl (fun hc => ?_) (fun hc => ?_)))
  all_goals ((first | refine fp1 (.inl rfl) rfl rfl ?_ | refine fp2 (.inl rfl) rfl rfl rfl ?_ | refine fp3 (.inl rfl) rfl rfl rfl rfl ?_ | refine fp0 (.inr rfl) rfl ?_ | refine fp0 (.inl rfl) rfl ?_ | refine fp1 (.inr rfl) rfl rfl ?_); refine ⟨?_, by (first | exact Frm.refl _ | assumption | (refine Frm.trans ?_ (by assumption); first | exact Frm.refl _ | assumption))⟩)
  all_goals (show int _ = _)
  all_goals (try simp only [pkb_or, pkb_and, Bool.and_eq_true, Bool.or_eq_true, Bool.and_eq_false_iff, Bool.or_eq_false_iff, decide_eq_true_eq, decide_eq_false_iff_not, Bool.not_eq_true', Bool.not_eq_false'] at *)
  all_goals unfold sizeR
  all_goals first
    | (rw [if_pos (by omega)]; rfl)
    | (rw [if_neg (by omega), if_pos (by omega)]; rfl)
    | (rw [if_neg (by omega), if_neg (by omega), if_pos (by omega)]; rfl)
    | (rw [if_neg (by omega), if_neg (by omega), if_neg (by omega), if_pos (by omega)]; rfl)
    | (rw [if_neg (by omega), if_neg (by omega), if_neg (by omega), if_neg (by omega)]; rfl)

theorem second_ok (c d : Nat) (w : World) : PureC Try.prog 74 #[byt c, byt d] w (.bool (secondR c d)) := by
  refine enter (l := [byt c, byt d]) Try.func74 rfl Try.ntmps74 (by kernel_rfl) rfl ?_
  repeat' (first | (first | (show WL _ _ _ _ _ _ _ _; (first | refine wlp ?_ | refine WL_nil ?_ | (show WL _ _ _ _ _ (Go.Oper.mk _ _ _ _ _ none :: _) _ _; first | refine wlpk ?_ | refine wl_load ?_ | refine wl_idxa ?_ | refine wl_fld ?_ | refine wl_idx ?_ | refine wl_len ?_ | refine wl_bin ?_ | refine wl_cnv ?_ | refine wl_slc ?_ | refine wl_una ?_ | refine wl_nilc ?_ | refine wl_mkf ?_) | refine wlpg ?_ | refine wlg_load ?_ | refine wlg_idxa ?_ | refine wlg_fld ?_ | refine wlg_idx ?_ | refine wlg_len ?_ | refine wlg_bin ?_ | refine wlg_cnv ?_ | refine wlg_slc ?_ | refine wlg_una ?_ | refine wlg_nilc ?_ | refine wlg_mkf ?_)) | (show thn _ _ _ _ _ _; (first | refine thn_normal ?_ | refine thn_ret ?_ | refine thn_exit ?_)) | (show thl _ _ _ _ _ _ _; (first | refine thl_normal ?_ | refine thl_ret ?_ | refine thl_exit ?_)) | (show WC _ _ _ _ _ _ _; (first | refine WC_seq ?_ | refine WC_region ?_ | refine WC_ret ?_ | refine WC_skip ?_ | refine WC_block ?_ | refine WC_exit ?_ | refine WC_label ?_ | refine WC_scope rfl ?_ | refine wcyes ?_ | refine wcno ?_)) | (show blk _ _ _ _ _ _; (first | refine blk_ret ?_ | refine blk_here ?_ | refine blk_on rfl ?_ | refine blk_normal ?_)) | (show ngt _ _ _ _ _; (first | refine ngt_normal ?_ | refine ngt_ret ?_ | refine ngt_exit ?_))) | (show WC _ _ _ _ _ _ _; first | refine WC_dec rfl (fun hc => ?_) (fun hc => ?_) | refine WC_cond rfl (fun hc => ?_) (fun hc => ?_)))
  all_goals ((first | refine fp1 (.inl rfl) rfl rfl ?_ | refine fp2 (.inl rfl) rfl rfl rfl ?_ | refine fp3 (.inl rfl) rfl rfl rfl rfl ?_ | refine fp0 (.inr rfl) rfl ?_ | refine fp0 (.inl rfl) rfl ?_ | refine fp1 (.inr rfl) rfl rfl ?_); refine ⟨?_, by (first | exact Frm.refl _ | assumption | (refine Frm.trans ?_ (by assumption); first | exact Frm.refl _ | assumption))⟩)
  all_goals (show Value.bool _ = _)
  all_goals rw [pkb_and]
  all_goals unfold secondR
  all_goals (repeat' split)
  all_goals first
    | (exfalso; omega)
    | (congr 2 <;> (rw [decide_eq_decide]; omega))

theorem tup_ib {k : Int} {a b : Bool} (h : a = b) : Value.tuple #[int k, .bool a] = .tuple #[int k, .bool b] := by rw [h]

/-- how far it is good, from k on -/
def goodF (l : List UInt8) (n : Nat) : Nat → Nat → Nat
  | 0, k => k
  | f + 1, k => if k < n ∧ k < l.length then (if (k = 1 ∧ secondR (at0 l 0) (at0 l 1) = false) ∨ (1 < k ∧ (at0 l k < 0x80 ∨ 0xBF < at0 l k)) then k else goodF l n f (k + 1)) else k
def goodR (l : List UInt8) : Nat × Bool := if sizeR (at0 l 0) = 0 then (0, false) else (goodF l (sizeR (at0 l 0)) 4 1, decide (goodF l (sizeR (at0 l 0)) 4 1 = sizeR (at0 l 0)))

theorem sizeR_le (c : Nat) : sizeR c ≤ 4 := by unfold sizeR; repeat' split
                                               all_goals omega

set_option maxHeartbeats 1000000 in
theorem good_ok (l : List UInt8) (p : Option Addr) (n c : Nat) (hn : n = l.length) (h0 : 0 < l.length) (hc : l.length ≤ c) (hb : l.length < 4611686018427387904) (M : List Nat) (w : World) (hi : Im M w p (bs l)) :
    PureC Try.prog 67 #[.slice p n c] w (.tuple #[int (goodR l).1, .bool (goodR l).2]) := by
  subst hn
  have hs4 := sizeR_le (at0 l 0)
  refine enter (l := [.slice p l.length c]) Try.func67 rfl Try.ntmps67 (by kernel_rfl) rfl ?_
  refine sgo ?_
  refine wlpure (size_ok (at0 l 0) _) fun w1 hw1 => ?_
  replace hi := hi.frm hw1
  repeat' (first | (first | (show WL _ _ _ _ _ _ _ _; (first | refine wlp ?_ | refine WL_nil ?_ | (show WL _ _ _ _ _ (Go.Oper.mk _ _ _ _ _ none :: _) _ _; first | refine wlpk ?_ | refine wl_load ?_ | refine wl_idxa ?_ | refine wl_fld ?_ | refine wl_idx ?_ | refine wl_len ?_ | refine wl_bin ?_ | refine wl_cnv ?_ | refine wl_slc ?_ | refine wl_una ?_ | refine wl_nilc ?_ | refine wl_mkf ?_) | refine wlpg ?_ | refine wlg_load ?_ | refine wlg_idxa ?_ | refine wlg_fld ?_ | refine wlg_idx ?_ | refine wlg_len ?_ | refine wlg_bin ?_ | refine wlg_cnv ?_ | refine wlg_slc ?_ | refine wlg_una ?_ | refine wlg_nilc ?_ | refine wlg_mkf ?_)) | (show thn _ _ _ _ _ _; (first | refine thn_normal ?_ | refine thn_ret ?_ | refine thn_exit ?_)) | (show thl _ _ _ _ _ _ _; (first | refine thl_normal ?_ | refine thl_ret ?_ | refine thl_exit ?_)) | (show WC _ _ _ _ _ _ _; (first | refine WC_seq ?_ | refine WC_region ?_ | refine WC_ret ?_ | refine WC_skip ?_ | refine WC_block ?_ | refine WC_exit ?_ | refine WC_label ?_ | refine WC_scope rfl ?_ | refine wcyes ?_ | refine wcno ?_)) | (show blk _ _ _ _ _ _; (first | refine blk_ret ?_ | refine blk_here ?_ | refine blk_on rfl ?_ | refine blk_normal ?_)) | (show ngt _ _ _ _ _; (first | refine ngt_normal ?_ | refine ngt_ret ?_ | refine ngt_exit ?_))) | (show WC _ _ _ _ _ _ _; first | refine WC_dec rfl (fun hc => ?_) (fun hc => ?_) | refine WC_cond rfl (fun hc => ?_) (fun hc => ?_)))
  · (first | refine fp1 (.inl rfl) rfl rfl ?_ | refine fp2 (.inl rfl) rfl rfl rfl ?_ | refine fp3 (.inl rfl) rfl rfl rfl rfl ?_ | refine fp0 (.inr rfl) rfl ?_ | refine fp0 (.inl rfl) rfl ?_ | refine fp1 (.inr rfl) rfl rfl ?_)
    refine ⟨?_, hw1⟩
    unfold goodR; rw [if_pos (by omega)]; rfl
  rename_i hz
  have hgd : goodR l = (goodF l (sizeR (at0 l 0)) 4 1, decide (goodF l (sizeR (at0 l 0)) 4 1 = sizeR (at0 l 0))) := by unfold goodR; rw [if_neg (by omega)]
  refine wcloop (X := Nat) (fun x => [(0, .slice p l.length c), (4, int (sizeR (at0 l 0))), (5, int x)])
    (fun x wr => 1 ≤ x ∧ x ≤ sizeR (at0 l 0) ∧ goodF l (sizeR (at0 l 0)) 4 1 = goodF l (sizeR (at0 l 0)) (5 - x) x ∧ Frm w wr ∧ Im M wr p (bs l)) (fun x => 5 - x) 1 ⟨rfl, rfl, rfl, trivial⟩ ⟨by omega, by omega, rfl, hw1, hi⟩ ?_
  rintro k wr ρ ⟨hk1, hk4, hg, hfr, hIm⟩
  try dsimp only
  repeat' (first | (first | (show WL _ _ _ _ _ _ _ _; (first | refine wlp ?_ | refine WL_nil ?_ | (show WL _ _ _ _ _ (Go.Oper.mk _ _ _ _ _ none :: _) _ _; first | refine wlpk ?_ | refine wl_load ?_ | refine wl_idxa ?_ | refine wl_fld ?_ | refine wl_idx ?_ | refine wl_len ?_ | refine wl_bin ?_ | refine wl_cnv ?_ | refine wl_slc ?_ | refine wl_una ?_ | refine wl_nilc ?_ | refine wl_mkf ?_) | refine wlpg ?_ | refine wlg_load ?_ | refine wlg_idxa ?_ | refine wlg_fld ?_ | refine wlg_idx ?_ | refine wlg_len ?_ | refine wlg_bin ?_ | refine wlg_cnv ?_ | refine wlg_slc ?_ | refine wlg_una ?_ | refine wlg_nilc ?_ | refine wlg_mkf ?_)) | (show thn _ _ _ _ _ _; (first | refine thn_normal ?_ | refine thn_ret ?_ | refine thn_exit ?_)) | (show thl _ _ _ _ _ _ _; (first | refine thl_normal ?_ | refine thl_ret ?_ | refine thl_exit ?_)) | (show WC _ _ _ _ _ _ _; (first | refine WC_seq ?_ | refine WC_region ?_ | refine WC_ret ?_ | refine WC_skip ?_ | refine WC_block ?_ | refine WC_exit ?_ | refine WC_label ?_ | refine WC_scope rfl ?_ | refine wcyes ?_ | refine wcno ?_)) | (show blk _ _ _ _ _ _; (first | refine blk_ret ?_ | refine blk_here ?_ | refine blk_on rfl ?_ | refine blk_normal ?_)) | (show ngt _ _ _ _ _; (first | refine ngt_normal ?_ | refine ngt_ret ?_ | refine ngt_exit ?_))) | (show WC _ _ _ _ _ _ _; first | refine WC_dec rfl (fun hc => ?_) (fun hc => ?_) | refine WC_cond rfl (fun hc => ?_) (fun hc => ?_)))
  · -- one byte more?
    rw [pkb_and, Bool.and_eq_true, decide_eq_true_eq, decide_eq_true_eq] at hc
    (first | refine WC_seq ?_ | skip); refine wcdraw ?_
    refine qgo ?_
    refine qlcallgp (fun _ w _ => second_ok (at0 l 0) (at0 l 1) w) ?_
    refine qgo ?_
    refine QL_nil ?_; intro wd hwd
    replace hfr := hfr.trans hwd
    replace hIm := hIm.frm hwd
    have hgk : goodF l (sizeR (at0 l 0)) (5 - k) k = if (k = 1 ∧ secondR (at0 l 0) (at0 l 1) = false) ∨ (1 < k ∧ (at0 l k < 0x80 ∨ 0xBF < at0 l k)) then k else goodF l (sizeR (at0 l 0)) (4 - k) (k + 1) := by
      rw [show 5 - k = (4 - k) + 1 from by omega, goodF, if_pos ⟨by omega, by omega⟩]
    repeat' (first | (first | (show WL _ _ _ _ _ _ _ _; (first | refine wlp ?_ | refine WL_nil ?_ | (show WL _ _ _ _ _ (Go.Oper.mk _ _ _ _ _ none :: _) _ _; first | refine wlpk ?_ | refine wl_load ?_ | refine wl_idxa ?_ | refine wl_fld ?_ | refine wl_idx ?_ | refine wl_len ?_ | refine wl_bin ?_ | refine wl_cnv ?_ | refine wl_slc ?_ | refine wl_una ?_ | refine wl_nilc ?_ | refine wl_mkf ?_) | refine wlpg ?_ | refine wlg_load ?_ | refine wlg_idxa ?_ | refine wlg_fld ?_ | refine wlg_idx ?_ | refine wlg_len ?_ | refine wlg_bin ?_ | refine wlg_cnv ?_ | refine wlg_slc ?_ | refine wlg_una ?_ | refine wlg_nilc ?_ | refine wlg_mkf ?_)) | (show thn _ _ _ _ _ _; (first | refine thn_normal ?_ | refine thn_ret ?_ | refine thn_exit ?_)) | (show thl _ _ _ _ _ _ _; (first | refine thl_normal ?_ | refine thl_ret ?_ | refine thl_exit ?_)) | (show WC _ _ _ _ _ _ _; (first | refine WC_seq ?_ | refine WC_region ?_ | refine WC_ret ?_ | refine WC_skip ?_ | refine WC_block ?_ | refine WC_exit ?_ | refine WC_label ?_ | refine WC_scope rfl ?_ | refine wcyes ?_ | refine wcno ?_)) | (show blk _ _ _ _ _ _; (first | refine blk_ret ?_ | refine blk_here ?_ | refine blk_on rfl ?_ | refine blk_normal ?_)) | (show ngt _ _ _ _ _; (first | refine ngt_normal ?_ | refine ngt_ret ?_ | refine ngt_exit ?_))) | (show WC _ _ _ _ _ _ _; first | refine WC_dec rfl (fun hc => ?_) (fun hc => ?_) | refine WC_cond rfl (fun hc => ?_) (fun hc => ?_)))
    · (first | refine fp1 (.inl rfl) rfl rfl ?_ | refine fp2 (.inl rfl) rfl rfl rfl ?_ | refine fp3 (.inl rfl) rfl rfl rfl rfl ?_ | refine fp0 (.inr rfl) rfl ?_ | refine fp0 (.inl rfl) rfl ?_ | refine fp1 (.inr rfl) rfl rfl ?_)
      refine ⟨?_, hfr⟩
      rename_i hk hc2
      simp only [pkb_or, pkb_and, Bool.or_eq_true, Bool.and_eq_true, decide_eq_true_eq, Bool.not_eq_true'] at hc
      have hpos : (k = 1 ∧ secondR (at0 l 0) (at0 l 1) = false) ∨ (1 < k ∧ (at0 l k < 0x80 ∨ 0xBF < at0 l k)) := by
        rcases hc with ⟨h1, h2⟩ | ⟨h1, h2⟩
        · exact .inl ⟨by omega, h2⟩
        · exact .inr ⟨by omega, by simp only [at0]; omega⟩
      rw [if_pos hpos] at hgk
      rw [hgd, hg, hgk]
      exact tup_ib (by rw [decide_eq_decide]; omega)
    · simp only [pkb_or, pkb_and, Bool.or_eq_false_iff, Bool.and_eq_false_iff, decide_eq_false_iff_not, Bool.not_eq_false'] at hc
      have hneg : ¬ ((k = 1 ∧ secondR (at0 l 0) (at0 l 1) = false) ∨ (1 < k ∧ (at0 l k < 0x80 ∨ 0xBF < at0 l k))) := by
        intro h
        rcases h with ⟨h1, h2⟩ | h
        · rcases hc.1 with h3 | h3
          · omega
          · rw [h2] at h3; cases h3
        · simp only [at0] at h; omega
      rw [if_neg hneg] at hgk
      refine ⟨k + 1, ⟨rfl, rfl, rfl, trivial⟩, ⟨by omega, by omega, ?_, hfr, hIm⟩, by omega⟩
      rw [hg, hgk]; congr 1; omega
  · -- no more
    simp only [pkb_and, Bool.and_eq_false_iff, decide_eq_false_iff_not] at hc
    (first | refine fp1 (.inl rfl) rfl rfl ?_ | refine fp2 (.inl rfl) rfl rfl rfl ?_ | refine fp3 (.inl rfl) rfl rfl rfl rfl ?_ | refine fp0 (.inr rfl) rfl ?_ | refine fp0 (.inl rfl) rfl ?_ | refine fp1 (.inr rfl) rfl rfl ?_)
    refine ⟨?_, hfr⟩
    have hgk : goodF l (sizeR (at0 l 0)) (5 - k) k = k := by
      rw [show 5 - k = (4 - k) + 1 from by omega, goodF, if_neg (by omega)]
    rw [hgd, hg, hgk]
    exact tup_ib (by rw [decide_eq_decide]; omega)
end Go.Proofs.Ytffaoehhhdcjjaa
