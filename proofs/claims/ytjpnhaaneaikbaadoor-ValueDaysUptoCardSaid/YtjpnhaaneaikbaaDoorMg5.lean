/-
  Our texts SvVaE, joined.
-/
import Derived.Test.YtjpnhaaneaikbaaDoorMg4
/-
  The law ValueWords.
-/
set_option linter.unusedSimpArgs false
set_option linter.unusedVariables false
set_option linter.unnecessarySimpa false
namespace Go.Proofs.YtjpnhaaneaikbaaDoor
open Go Go.Sv Go.RowKit

set_option maxHeartbeats 2000000 in
theorem valueWords_ok (v : List UInt8) (hb : v.length ≤ 1048576) (w : World) : PureC Tryd.prog 4 #[str v] w (.bool true) := by
  have hS := Sep.start w
  have hcl := cleanR_len v
  have hfl := fields_len (cleanR v)
  have htk := fun w1 cs (hS : Sep w w1 cs) => tokens_ok v (by omega) w w1 cs hS
  have hrt := fun w1 cs (hS : Sep w w1 cs) => refTokens_ok v (by omega) w w1 cs hS
  have hnum := fun w1 => number_ok v (by omega) w1
  have hrn := fun w1 => refNumber_ok v (by omega) w1
  refine enter (l := [str v]) Tryd.func4 rfl Tryd.ntmps4 (by kernel_rfl) rfl ?_
  generalize fieldsR (cleanR v) = F at *
  generalize numR (cleanR v) = N at *
  have hsl := strs_len F
  refine sgo ?_
  refine wlcall (htk _ _ hS) ?_
  rintro _ w1 ⟨q1, c1, rfl, hS⟩
  refine sgo ?_
  refine wlcall (htk _ _ hS) ?_
  rintro _ w2 ⟨q2, c2, rfl, hS⟩
  refine sgo ?_
  refine wlcall (hrt _ _ hS) ?_
  rintro _ w3 ⟨q3, c3, rfl, hS⟩
  refine sgo ?_
  refine wlpure (hnum _) fun w4 hf4 => ?_
  replace hS := hS.grow hf4
  have hx : ∃ n ok, numV N = .tuple #[int (n : Nat), .bool ok] ∧ (ok = false → n = 0) := by
    cases N with
    | none => exact ⟨0, false, rfl, fun _ => rfl⟩
    | some n => exact ⟨n, true, rfl, fun h => by cases h⟩
  obtain ⟨n, ok, hN, hn0⟩ := hx
  rw [hN] at hrn ⊢
  refine sgo ?_
  refine wlpure (hrn _) fun w5 hf5 => ?_
  replace hS := hS.grow hf5
  clear hf4 hf5 hnum hrn htk hrt
  refine sgo ?_
  refine wcutn (X := Unit) (fun _ => [(0, str v), (3, .slice q1 F.length c1), (4, .slice q2 F.length c2), (5, .slice q3 F.length c3), (6, int n), (7, .bool ok), (8, int n), (9, .bool ok)])
    (fun _ w' => Sep w w' [pRow 1 q3 F.length c3 (strs F), pRow 1 q2 F.length c2 (strs F), pRow 1 q1 F.length c1 (strs F)]) ?_ ?_
  · cases ok with
    | true =>
      refine sgo ?_
      exact ⟨(), ⟨rfl, rfl, rfl, rfl, rfl, rfl, rfl, rfl, trivial⟩, hS⟩
    | false =>
      obtain rfl := hn0 rfl
      refine sgo ?_
      exact ⟨(), ⟨rfl, rfl, rfl, rfl, rfl, rfl, rfl, rfl, trivial⟩, hS⟩
  clear hS
  rintro _ w6 ρ hS
  refine sgo ?_
  refine wlpure (same13_ok F F q1 q3 c1 c3 (by omega) (by omega) _ (hS.im 2 rfl) (hS.im 0 rfl)) fun w7 hf7 => ?_
  replace hS := hS.grow hf7
  refine sgo ?_
  refine wcno ?_ (ht := by simp [pkb])
  refine sgo ?_
  refine wcutj (X := Unit) (fun _ => [(4, .slice q2 F.length c2), (5, .slice q3 F.length c3)]) (fun _ w' => ∃ xs, Sep w w' [pRow 1 q3 F.length c3 (strs F), pRow 1 q2 F.length c2 (strs F), pRow 1 q1 F.length c1 xs]) ?_ ?_
  · refine wcloop (X := Nat) (fun i => [(3, .slice q1 F.length c1), (4, .slice q2 F.length c2), (5, .slice q3 F.length c3), (44, int F.length), (45, int i)])
      (fun i w' => i ≤ F.length ∧ ∃ xs, Sep w w' [pRow 1 q3 F.length c3 (strs F), pRow 1 q2 F.length c2 (strs F), pRow 1 q1 F.length c1 xs]) (fun i => F.length - i) 0 ⟨rfl, rfl, rfl, rfl, rfl, trivial⟩ ⟨Nat.zero_le _, _, hS⟩ ?_
    clear hS
    rintro i wr ρ2 ⟨hil, xs, hS⟩
    have hxl : xs.length = F.length := by have := (hS.row 2 rfl).len; omega
    refine sgo ?_
    (show WC _ _ _ _ _ _ _; first | refine WC_dec rfl (fun hc => ?_) (fun hc => ?_) | refine WC_cond rfl (fun hc => ?_) (fun hc => ?_))
    · have hlt : i < F.length := by omega
      have hq : ∃ a, q1 = some a := (hS.row 2 rfl).sg.some (by omega)
      clear hc
      refine sgo ?_
      refine srst (v := str [63]) hS 2 (fun w8 hS => ?_) (hk := by omega)
      refine sgo ?_
      exact ⟨i + 1, ⟨rfl, rfl, rfl, rfl, rfl, trivial⟩, ⟨hlt, _, hS⟩, by omega⟩
    · refine sgo ?_
      exact ⟨(), ⟨rfl, rfl, trivial⟩, xs, hS⟩
  · clear hS
    rintro _ w8 ρ2 ⟨xs, hS⟩
    refine sgo ?_
    refine wlpure (same13_ok F F q2 q3 c2 c3 (by omega) (by omega) _ (hS.im 1 rfl) (hS.im 0 rfl)) fun w9 hf9 => ?_
    replace hS := hS.grow hf9
    refine sgo ?_
    refine wlcallgp (vals := []) (fun _ => lives13_ok _) (fun w10 hf10 => ?_) (ha := fun _ => rfl)
    refine sgo ?_
    have hf := hS.frm.trans hf10
    clear hf10 hf9
    (first | refine fp1 (.inl rfl) rfl rfl ?_ | refine fp2 (.inl rfl) rfl rfl rfl ?_ | refine fp3 (.inl rfl) rfl rfl rfl rfl ?_ | refine fp0 (.inr rfl) rfl ?_ | refine fp0 (.inl rfl) rfl ?_ | refine fp1 (.inr rfl) rfl rfl ?_); refine ⟨?_, by (first | exact Frm.refl _ | assumption | exact Go.Sv.Sep.frm (by assumption) | (refine Frm.trans ?_ (by assumption); first | exact Frm.refl _ | assumption))⟩; (try simp only [realB, rv_true, Nat.reduceBEq, cond_true, cond_false, entG, real_lif, updGL])
    all_goals (simp [pkb])
end Go.Proofs.YtjpnhaaneaikbaaDoor

