/-
  Many steps at once.
-/
import Derived.Test.YtffaoehhhdcjjaaSvCall
set_option linter.unusedSimpArgs false
set_option linter.unusedVariables false
set_option linter.unnecessarySimpa false
namespace Go.Sv
open Go Go.RowKit
/-- what is left to show, behind a name -/
structure Wrap (B : Prop) : Prop where
  of : B
/-- straight on, as far as it goes -/
theorem sgo {A B : Prop} (h : B) (hs : Wrap B → A := by
    intro h0
    repeat (first | (show WL _ _ _ _ _ _ _ _; (first | refine wlp ?_ | refine WL_nil ?_ | (show WL _ _ _ _ _ (Go.Oper.mk _ _ _ _ _ none :: _) _ _; first | refine wlpk ?_ | refine wl_load ?_ | refine wl_idxa ?_ | refine wl_fld ?_ | refine wl_idx ?_ | refine wl_len ?_ | refine wl_bin ?_ | refine wl_cnv ?_ | refine wl_slc ?_ | refine wl_una ?_ | refine wl_nilc ?_ | refine wl_mkf ?_) | refine wlpg ?_ | refine wlg_load ?_ | refine wlg_idxa ?_ | refine wlg_fld ?_ | refine wlg_idx ?_ | refine wlg_len ?_ | refine wlg_bin ?_ | refine wlg_cnv ?_ | refine wlg_slc ?_ | refine wlg_una ?_ | refine wlg_nilc ?_ | refine wlg_mkf ?_)) | (show thn _ _ _ _ _ _; (first | refine thn_normal ?_ | refine thn_ret ?_ | refine thn_exit ?_)) | (show thl _ _ _ _ _ _ _; (first | refine thl_normal ?_ | refine thl_ret ?_ | refine thl_exit ?_)) | (show WC _ _ _ _ _ _ _; (first | refine WC_seq ?_ | refine WC_region ?_ | refine WC_ret ?_ | refine WC_skip ?_ | refine WC_block ?_ | refine WC_exit ?_ | refine WC_label ?_ | refine WC_scope rfl ?_ | refine wcyes ?_ | refine wcno ?_)) | (show blk _ _ _ _ _ _; (first | refine blk_ret ?_ | refine blk_here ?_ | refine blk_on rfl ?_ | refine blk_normal ?_)) | (show ngt _ _ _ _ _; (first | refine ngt_normal ?_ | refine ngt_ret ?_ | refine ngt_exit ?_)))
    exact h0.of) : A := hs ⟨h⟩
theorem qgo {A B : Prop} (h : B) (hs : Wrap B → A := by
    intro h0
    repeat (first | refine qlp ?_ | refine qlpg ?_ | refine qlpk ?_ | refine ql_load ?_ | refine ql_idxa ?_ | refine ql_fld ?_ | refine ql_idx ?_ | refine ql_len ?_ | refine ql_bin ?_ | refine ql_cnv ?_ | refine ql_slc ?_ | refine ql_una ?_ | refine ql_nilc ?_ | refine ql_mkf ?_ | refine qlg_load ?_ | refine qlg_idxa ?_ | refine qlg_fld ?_ | refine qlg_idx ?_ | refine qlg_len ?_ | refine qlg_bin ?_ | refine qlg_cnv ?_ | refine qlg_slc ?_ | refine qlg_una ?_ | refine qlg_nilc ?_ | refine qlg_mkf ?_)
    exact h0.of) : A := hs ⟨h⟩
end Go.Sv
