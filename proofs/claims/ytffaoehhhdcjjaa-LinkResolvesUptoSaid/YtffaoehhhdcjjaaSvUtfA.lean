/-
  Package utf: what 'bounds', 'read' and 'Valid' compute, and that they do.
-/
import Derived.Test.YtffaoehhhdcjjaaSvTab
import Derived.Test.YtffaoehhhdcjjaaSvGo
set_option linter.unusedSimpArgs false
set_option linter.unusedVariables false
set_option linter.unnecessarySimpa false
namespace Go.Proofs.Ytffaoehhhdcjjaa
open Go Go.Sv Go.RowKit

def boundsS (c : Nat) : Int × Int × Int :=
  if c < 0x80 then (0, 0, 0) else if 0xc2 ≤ c ∧ c ≤ 0xdf then (1, 0x80, 0xbf) else if c = 0xe0 then (2, 0xa0, 0xbf) else if c = 0xed then (2, 0x80, 0x9f)
  else if 0xe1 ≤ c ∧ c ≤ 0xef then (2, 0x80, 0xbf) else if c = 0xf0 then (3, 0x90, 0xbf) else if 0xf1 ≤ c ∧ c ≤ 0xf3 then (3, 0x80, 0xbf) else if c = 0xf4 then (3, 0x80, 0x8f) else (-1, 0, 0)

set_option maxHeartbeats 2000000 in
theorem bounds_ok (c : Nat) (w : World) : PureC Try.prog 75 #[byt c] w (.tuple #[int (boundsS c).1, byt (boundsS c).2.1, byt (boundsS c).2.2]) := by
  refine enter (l := [byt c]) Try.func75 rfl Try.ntmps75 (by kernel_rfl) rfl ?_
  repeat' (first | (first | (show WL _ _ _ _ _ _ _ _; (first | refine wlp ?_ | refine WL_nil ?_ | (show WL _ _ _ _ _ (Go.Oper.mk _ _ _ _ _ none :: _) _ _; first | refine wlpk ?_ | refine wl_load ?_ | refine wl_idxa ?_ | refine wl_fld ?_ | refine wl_idx ?_ | refine wl_len ?_ | refine wl_bin ?_ | refine wl_cnv ?_ | refine wl_slc ?_ | refine wl_una ?_ | refine wl_nilc ?_ | refine wl_mkf ?_) | refine wlpg ?_ | refine wlg_load ?_ | refine wlg_idxa ?_ | refine wlg_fld ?_ | refine wlg_idx ?_ | refine wlg_len ?_ | refine wlg_bin ?_ | refine wlg_cnv ?_ | refine wlg_slc ?_ | refine wlg_una ?_ | refine wlg_nilc ?_ | refine wlg_mkf ?_)) | (show thn _ _ _ _ _ _; (first | refine thn_normal ?_ | refine thn_ret ?_ | refine thn_exit ?_)) | (show thl _ _ _ _ _ _ _; (first | refine thl_normal ?_ | refine thl_ret ?_ | refine thl_exit ?_)) | (show WC _ _ _ _ _ _ _; (first | refine WC_seq ?_ | refine WC_region ?_ | refine WC_ret ?_ | refine WC_skip ?_ | refine WC_block ?_ | refine WC_exit ?_ | refine WC_label ?_ | refine WC_scope rfl ?_ | refine wcyes ?_ | refine wcno ?_)) | (show blk _ _ _ _ _ _; (first | refine blk_ret ?_ | refine blk_here ?_ | refine blk_on rfl ?_ | refine blk_normal ?_)) | (show ngt _ _ _ _ _; (first | refine ngt_normal ?_ | refine ngt_ret ?_ | refine ngt_exit ?_))) | (show WC _ _ _ _ _ _ _; first | refine WC_dec rfl (fun hc => ?_) (fun hc => ?_) | refine WC_cond rfl (fun hc => ?_) (fun hc => ?_)))
  all_goals ((first | refine fp1 (.inl rfl) rfl rfl ?_ | refine fp2 (.inl rfl) rfl rfl rfl ?_ | refine fp3 (.inl rfl) rfl rfl rfl rfl ?_ | refine fp0 (.inr rfl) rfl ?_ | refine fp0 (.inl rfl) rfl ?_ | refine fp1 (.inr rfl) rfl rfl ?_); refine ⟨?_, by (first | exact Frm.refl _ | assumption | (refine Frm.trans ?_ (by assumption); first | exact Frm.refl _ | assumption))⟩)
  all_goals (show Value.tuple #[int _, byt _, byt _] = _)
  all_goals (try simp only [pkb_or, pkb_and, Bool.and_eq_true, Bool.or_eq_true, Bool.and_eq_false_iff, Bool.or_eq_false_iff, decide_eq_true_eq, decide_eq_false_iff_not, Bool.not_eq_true', Bool.not_eq_false'] at *)
  all_goals first
    | (rw [boundsS, if_pos (by omega)]; done)
    | (rw [boundsS, if_neg (by omega), if_pos (by omega)]; done)
    | (rw [boundsS, if_neg (by omega), if_neg (by omega), if_pos (by omega)]; done)
    | (rw [boundsS, if_neg (by omega), if_neg (by omega), if_neg (by omega), if_pos (by omega)]; done)
    | (rw [boundsS, if_neg (by omega), if_neg (by omega), if_neg (by omega), if_neg (by omega), if_pos (by omega)]; done)
    | (rw [boundsS, if_neg (by omega), if_neg (by omega), if_neg (by omega), if_neg (by omega), if_neg (by omega), if_pos (by omega)]; done)
    | (rw [boundsS, if_neg (by omega), if_neg (by omega), if_neg (by omega), if_neg (by omega), if_neg (by omega), if_neg (by omega), if_pos (by omega)]; done)
    | (rw [boundsS, if_neg (by omega), if_neg (by omega), if_neg (by omega), if_neg (by omega), if_neg (by omega), if_neg (by omega), if_neg (by omega), if_pos (by omega)]; done)
    | (rw [boundsS, if_neg (by omega), if_neg (by omega), if_neg (by omega), if_neg (by omega), if_neg (by omega), if_neg (by omega), if_neg (by omega), if_neg (by omega)]; done)

abbrev at0 (l : List UInt8) (i : Nat) : Nat := (l[i]?.getD 0).toNat
theorem at0_lt (l : List UInt8) (i : Nat) : at0 l i < 256 := UInt8.toNat_lt _

def rdLoop (l : List UInt8) (more : Nat) : Nat → Nat → Int → Int → Int → Int × Int × Int
  | 0, _, r, _, _ => (r, more + 1, 0)
  | f + 1, i, r, lo, hi => if i = l.length then (65533, i, 2) else if (at0 l i : Int) < lo ∨ hi < at0 l i then (65533, i, 1) else rdLoop l more f (i + 1) (r * 64 + (at0 l i % 64 : Nat)) 128 191
def readS (l : List UInt8) : Int × Int × Int :=
  if (boundsS (at0 l 0)).1 < 0 then (65533, 1, 1) else if (boundsS (at0 l 0)).1 = 0 then (at0 l 0, 1, 0)
  else rdLoop l (boundsS (at0 l 0)).1.toNat (boundsS (at0 l 0)).1.toNat 1 (at0 l 0 % 2 ^ (6 - (boundsS (at0 l 0)).1.toNat) : Nat) (boundsS (at0 l 0)).2.1 (boundsS (at0 l 0)).2.2

theorem boundsS_rng (c : Nat) : -1 ≤ (boundsS c).1 ∧ (boundsS c).1 ≤ 3 ∧ 0 ≤ (boundsS c).2.1 ∧ (boundsS c).2.1 ≤ 255 ∧ 0 ≤ (boundsS c).2.2 ∧ (boundsS c).2.2 ≤ 255 := by
  unfold boundsS; repeat' split
  all_goals simp

theorem mask_first (c m : Nat) (hc : c < 256) (h1 : 1 ≤ m) (h2 : m ≤ 3) : bitop .and .i32 (c : Int) ((63:Int).fdiv (2 ^ (min (m : Int).toNat IntKind.i32.bits))) = ((c % 2 ^ (6 - m) : Nat) : Int) := by
  have : m = 1 ∨ m = 2 ∨ m = 3 := by omega
  rcases this with rfl | rfl | rfl <;> · revert hc; revert c; decide +kernel
theorem mask6 (c : Nat) (hc : c < 256) : bitop .and .u8 (c : Int) 63 = ((c % 64 : Nat) : Int) := by revert hc; revert c; decide +kernel
theorem shl6 (r : Int) (h0 : 0 ≤ r) (h1 : r < 33554432) : IntKind.i32.wrap (r * 2 ^ (min (6 : Int).toNat IntKind.i32.bits)) = r * 64 := by
  have : (2 : Int) ^ (min (6 : Int).toNat IntKind.i32.bits) = 64 := by decide
  rw [this, wrap_in]
  simp [IntKind.min, IntKind.max, IntKind.signed, IntKind.bits]; omega
theorem or6 (r x : Nat) (h1 : r < 33554432) (hx : x < 64) : bitop .or .i32 ((r : Int) * 64) (x : Int) = (r : Int) * 64 + x := by
  have e : (r : Int) * 64 = ((r * 64 : Nat) : Int) := by simp
  rw [e]
  simp only [bitop]
  have h2 : (BitVec.ofInt IntKind.i32.bits ((r * 64 : Nat) : Int) ||| BitVec.ofInt IntKind.i32.bits (x : Int)).toNat = r * 64 + x := by
    rw [BitVec.ofInt_natCast, BitVec.ofInt_natCast, BitVec.toNat_or, BitVec.toNat_ofNat, BitVec.toNat_ofNat]
    have e1 : r * 64 % 2 ^ IntKind.i32.bits = r * 64 := Nat.mod_eq_of_lt (by show _ < 2 ^ 32; omega)
    have e2 : x % 2 ^ IntKind.i32.bits = x := Nat.mod_eq_of_lt (by show _ < 2 ^ 32; omega)
    rw [e1, e2, show r * 64 = 2 ^ 6 * r from by omega]
    exact (Nat.two_pow_add_eq_or_of_lt (i := 6) (by omega) r).symm
  rw [h2, wrap_in]
  · simp
  · simp [IntKind.min, IntKind.max, IntKind.signed, IntKind.bits]; omega

end Go.Proofs.Ytffaoehhhdcjjaa
