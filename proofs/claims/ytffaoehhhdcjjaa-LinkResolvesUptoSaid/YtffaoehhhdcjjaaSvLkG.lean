/-
  Package sievelaw12: the document's examples.
-/
import Derived.Test.YtffaoehhhdcjjaaSvLkF
set_option linter.unusedSimpArgs false
set_option linter.unusedVariables false
set_option linter.unnecessarySimpa false
namespace Go.Proofs.Ytffaoehhhdcjjaa
open Go Go.Sv Go.RowKit

theorem aw1 : lowR ((stripR [32, 74, 97, 86, 97, 9, 115, 99, 114, 105, 112, 116, 58, 120]).take (schemeR (stripR [32, 74, 97, 86, 97, 9, 115, 99, 114, 105, 112, 116, 58, 120])).1) = [106, 97, 118, 97, 115, 99, 114, 105, 112, 116] := by decide +kernel
theorem aw2 : (schemeR (stripR [32, 74, 97, 86, 97, 9, 115, 99, 114, 105, 112, 116, 58, 120])).2 = true := by decide +kernel
theorem aw3 : encodeR [97, 32, 98, 37, 50, 103, 34, 195, 169] = [97, 37, 50, 48, 98, 37, 50, 53, 50, 103, 37, 50, 50, 37, 67, 51, 37, 65, 57] := by decide +kernel
theorem aw4 : dotsL (mendR [47, 97, 47, 98, 47, 99, 47, 46, 47, 46, 46, 47, 46, 46, 47, 103]) [] = [47, 97, 47, 103] := by decide +kernel
theorem awake_ok (w : World) : PureC Try.prog 9 #[] w (.bool true) := by
  refine enter (l := []) Try.func9 rfl Try.ntmps9 (by kernel_rfl) rfl ?_
  refine sgo ?_
  refine wlpure (scheme2_ok [32, 74, 97, 86, 97, 9, 115, 99, 114, 105, 112, 116, 58, 120] (by decide) _) fun w1 hf1 => ?_
  rw [aw1, aw2]
  refine sgo ?_
  refine wlcallgp (vals := [str [97, 32, 98, 37, 50, 103, 34, 195, 169]]) (fun _ => encode_ok [97, 32, 98, 37, 50, 103, 34, 195, 169] (by decide) _) fun w2 hf2 => ?_
  rw [aw3]
  have hf2' := hf1.trans hf2
  refine sgo ?_
  refine wlcallgp (vals := [str [47, 97, 47, 98, 47, 99, 47, 46, 47, 46, 46, 47, 46, 46, 47, 103]]) (fun _ => dots_ok [47, 97, 47, 98, 47, 99, 47, 46, 47, 46, 46, 47, 46, 46, 47, 103] (by decide) _) fun w3 hf3 => ?_
  rw [aw4]
  have hf3' := hf2'.trans hf3
  refine sgo ?_
  (first | refine fp1 (.inl rfl) rfl rfl ?_ | refine fp2 (.inl rfl) rfl rfl rfl ?_ | refine fp3 (.inl rfl) rfl rfl rfl rfl ?_ | refine fp0 (.inr rfl) rfl ?_ | refine fp0 (.inl rfl) rfl ?_ | refine fp1 (.inr rfl) rfl rfl ?_); refine ⟨?_, by (first | exact Frm.refl _ | assumption | (refine Frm.trans ?_ (by assumption); first | exact Frm.refl _ | assumption))⟩; (try simp only [realB, rv_true, Nat.reduceBEq, cond_true, cond_false, entG, real_lif, updGL])
  rfl
theorem num12_ok (k : Int) (w : World) : PureC Try.prog 8 #[int k] w (int k) := by
  refine enter (l := [int k]) Try.func8 rfl Try.ntmps8 (by kernel_rfl) rfl ?_
  refine sgo ?_
  (first | refine fp1 (.inl rfl) rfl rfl ?_ | refine fp2 (.inl rfl) rfl rfl rfl ?_ | refine fp3 (.inl rfl) rfl rfl rfl rfl ?_ | refine fp0 (.inr rfl) rfl ?_ | refine fp0 (.inl rfl) rfl ?_ | refine fp1 (.inr rfl) rfl rfl ?_); refine ⟨?_, by (first | exact Frm.refl _ | assumption | (refine Frm.trans ?_ (by assumption); first | exact Frm.refl _ | assumption))⟩; (try simp only [realB, rv_true, Nat.reduceBEq, cond_true, cond_false, entG, real_lif, updGL])
theorem linkNames_ok (w : World) : PureC Try.prog 3 #[] w (.bool true) := by
  refine enter (l := []) Try.func3 rfl Try.ntmps3 (by kernel_rfl) rfl ?_
  refine sgo ?_
  refine wlpure (num12_ok 120 _) fun w1 hf1 => ?_
  refine sgo ?_
  refine wlcallgp (vals := []) (fun _ => awake_ok _) (fun w2 hf2 => ?_) (ha := fun _ => rfl)
  have hf := hf1.trans hf2
  refine sgo ?_
  (first | refine fp1 (.inl rfl) rfl rfl ?_ | refine fp2 (.inl rfl) rfl rfl rfl ?_ | refine fp3 (.inl rfl) rfl rfl rfl rfl ?_ | refine fp0 (.inr rfl) rfl ?_ | refine fp0 (.inl rfl) rfl ?_ | refine fp1 (.inr rfl) rfl rfl ?_); refine ⟨?_, by (first | exact Frm.refl _ | assumption | (refine Frm.trans ?_ (by assumption); first | exact Frm.refl _ | assumption))⟩; (try simp only [realB, rv_true, Nat.reduceBEq, cond_true, cond_false, entG, real_lif, updGL])
  rfl
end Go.Proofs.Ytffaoehhhdcjjaa
