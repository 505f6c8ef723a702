/-
  sievelaw07: TokenChecks, walked.
-/
import Derived.Test.YtfomfplddncakaaSvTokJ
namespace Go.Proofs.Ytfomfplddncakaa
open Go Go.Sv Go.RowKit

theorem eqR_self (a : Tok) : eqR a a = true := by simp [eqR]
set_option maxHeartbeats 4000000 in
theorem tokenChecks_ok (a b : TokM) (n : List UInt8) (ha : a.t.small) (hb : b.t.small) (w : World) (hi : Im [] w a.p (a.t.attrs.flatMap At.cells)) (hj : Im [] w b.p (b.t.attrs.flatMap At.cells)) :
    PureC Try.prog 5 #[.agg ⟨a.cells⟩, .agg ⟨b.cells⟩, str n] w (.bool true) := by
  have hes := ha.attrs
  have hfl := fm_len At.len a.t.attrs
  have hsf := eqR_self a.t
  refine enter (l := [.agg ⟨a.cells⟩, .agg ⟨b.cells⟩, str n]) Try.func5 rfl Try.ntmps5 (by kernel_rfl) rfl ?_
  refine sgo ?_
  refine wlbox (v := .agg ⟨a.cells⟩) (hx := rfl) fun b1 w1 hb1 ho hf1 => ?_
  refine wlbox (v := .agg ⟨b.cells⟩) (hx := rfl) fun b2 w2 hb2 ho2 hf2 => ?_
  replace ho := ho.frm hf2
  simp only [TokM.cells, Tok.cells, Value.cells] at ho ho2
  have hf := hf1.trans hf2
  refine sgo ?_
  (first | refine WC_seq ?_ | skip); refine wcdraw ?_
  refine qgo ?_
  refine qlcallp (fun w' hw => check_ok a.t a.p a.c ha w' (hi.frm (hf.trans hw))) ?_
  refine qgo ?_
  refine qlcallp (fun w' hw => may_ok a.t a.p a.c ha w' (hi.frm (hf.trans hw))) ?_
  refine qgo ?_
  refine qlcallgp (vals := [.agg ⟨a.cells⟩, .agg ⟨b.cells⟩]) (fun _ w' hw => equal_ok a b ha hb w' (hi.frm (hf.trans hw)) (hj.frm (hf.trans hw))) ?_
  refine qgo ?_
  refine qlcallgp (vals := [.agg ⟨a.cells⟩, .agg ⟨b.cells⟩]) (fun _ w' hw => refEqual_ok a b ha hb w' (hi.frm (hf.trans hw)) (hj.frm (hf.trans hw))) ?_
  refine qgo ?_
  refine qlcallgp (vals := [.agg ⟨a.cells⟩, .agg ⟨a.cells⟩]) (fun _ w' hw => equal_ok a a ha ha w' (hi.frm (hf.trans hw)) (hi.frm (hf.trans hw))) ?_
  refine qgo ?_
  refine QL_nil ?_; intro wd hwd
  replace hf := hf.trans hwd
  replace ho := ho.frm hwd
  replace ho2 := ho2.frm hwd
  refine sgo ?_
  (show WC _ _ _ _ _ _ _; first | refine WC_dec rfl (fun hc => ?_) (fun hc => ?_) | refine WC_cond rfl (fun hc => ?_) (fun hc => ?_))
  · exfalso
    revert hc
    rw [hsf]
    cases mayR a.t <;> simp [pkb]
  clear hc
  refine sgo ?_
  refine wlpure (check_ok a.t a.p a.c ha _ (hi.frm hf)) fun w3 hf3 => ?_
  replace hf := hf.trans hf3
  replace ho := ho.frm hf3
  replace ho2 := ho2.frm hf3
  refine sgo ?_
  (show WC _ _ _ _ _ _ _; first | refine WC_dec rfl (fun hc => ?_) (fun hc => ?_) | refine WC_cond rfl (fun hc => ?_) (fun hc => ?_))
  · exfalso
    revert hc
    cases mayR a.t <;> simp [pkb]
  clear hc
  refine sgo ?_
  have hat := fun w hi => attr_ok a n ha w hi
  cases hA : attrR a.t.attrs n with
  | none =>
    rw [hA] at hat
    refine wlpure (hat _ (hi.frm hf)) fun w4 hf4 => ?_
    replace hf := hf.trans hf4
    replace ho := ho.frm hf4
    replace ho2 := ho2.frm hf4
    have hmiss : ∀ y ∈ a.t.attrs, y.n ≠ n := by
      unfold attrR at hA
      rw [List.find?_eq_none] at hA
      intro y hy
      simpa using hA y hy
    refine sgo ?_
    refine wcloop (X := Nat) (fun i => [(2, str n), (3, ptrAt (pb b1) 0), (8, str []), (9, .bool false), (48, .slice a.p a.t.attrs.length a.c), (49, int a.t.attrs.length), (50, int i)])
      (fun i wr => i ≤ a.t.attrs.length ∧ Frm w wr) (fun i => a.t.attrs.length - i) 0 ⟨rfl, rfl, rfl, rfl, rfl, rfl, rfl, trivial⟩ ⟨by omega, hf⟩ ?_
    clear ho ho2
    rintro i wr ρ ⟨hil, hfr⟩
    refine sgo ?_
    (show WC _ _ _ _ _ _ _; first | refine WC_dec rfl (fun hc => ?_) (fun hc => ?_) | refine WC_cond rfl (fun hc => ?_) (fun hc => ?_))
    · have hlt : i < a.t.attrs.length := by omega
      have hSg := (hi.frm hfr).sg
      have hx : a.t.attrs[i]? = some a.t.attrs[i] := List.getElem?_eq_getElem hlt
      have hseg := fm_seg At.len a.t.attrs hx
      have hxn := hmiss a.t.attrs[i] (List.getElem_mem hlt)
      generalize a.t.attrs[i] = x at *
      have hps : ∃ q, a.p = some q := hSg.some (by omega)
      refine sgo ?_
      refine wlalloc fun b2 w2 hb2 ho2 hf2 => ?_
      refine wlstorea0 (hv := by exact ⟨by rw [hseg]; rfl, rfl⟩) (h1 := by rw [hseg]; simp [At.cells, Value.oneCell']) ho2 fun w3 ho3 hl3 => ?_
      rw [hseg] at ho3
      have hfr3 := (hfr.trans hf2).step hl3 (by have := hfr.size; simp; omega)
      simp only [At.cells] at ho3
      clear hseg hSg ho2
      refine sgo ?_
      (show WC _ _ _ _ _ _ _; first | refine WC_dec rfl (fun hc => ?_) (fun hc => ?_) | refine WC_cond rfl (fun hc => ?_) (fun hc => ?_))
      · exact absurd hc hxn
      refine sgo ?_
      exact ⟨i + 1, ⟨rfl, rfl, rfl, rfl, rfl, rfl, rfl, trivial⟩, ⟨by omega, hfr3⟩, by omega⟩
    · refine sgo ?_
      refine wlcallgp (vals := []) (fun _ => lives_ok _) (fun w5 hf5 => ?_) (ha := fun _ => rfl)
      have hfr5 := hfr.trans hf5
      refine sgo ?_
      (first | refine fp1 (.inl rfl) rfl rfl ?_ | refine fp2 (.inl rfl) rfl rfl rfl ?_ | refine fp3 (.inl rfl) rfl rfl rfl rfl ?_ | refine fp0 (.inr rfl) rfl ?_ | refine fp0 (.inl rfl) rfl ?_ | refine fp1 (.inr rfl) rfl rfl ?_); refine ⟨?_, by (first | exact Frm.refl _ | assumption | (refine Frm.trans ?_ (by assumption); first | exact Frm.refl _ | assumption))⟩; (try simp only [realB, rv_true, Nat.reduceBEq, cond_true, cond_false, entG, real_lif, updGL])
      simp [pkb]
  | some z =>
    rw [hA] at hat
    refine wlpure (hat _ (hi.frm hf)) fun w4 hf4 => ?_
    replace hf := hf.trans hf4
    replace ho := ho.frm hf4
    replace ho2 := ho2.frm hf4
    refine sgo ?_
    refine wcloop (X := Nat) (fun i => [(2, str n), (3, ptrAt (pb b1) 0), (8, str z.v), (9, .bool true), (48, .slice a.p a.t.attrs.length a.c), (49, int a.t.attrs.length), (50, int i)])
      (fun i wr => i ≤ a.t.attrs.length ∧ (∀ y ∈ a.t.attrs.take i, y.n ≠ n) ∧ Frm w wr) (fun i => a.t.attrs.length - i) 0 ⟨rfl, rfl, rfl, rfl, rfl, rfl, rfl, trivial⟩ ⟨by omega, by simp, hf⟩ ?_
    clear ho ho2
    rintro i wr ρ ⟨hil, hne, hfr⟩
    refine sgo ?_
    (show WC _ _ _ _ _ _ _; first | refine WC_dec rfl (fun hc => ?_) (fun hc => ?_) | refine WC_cond rfl (fun hc => ?_) (fun hc => ?_))
    · have hlt : i < a.t.attrs.length := by omega
      have hSg := (hi.frm hfr).sg
      have hx : a.t.attrs[i]? = some a.t.attrs[i] := List.getElem?_eq_getElem hlt
      have hseg := fm_seg At.len a.t.attrs hx
      generalize a.t.attrs[i] = x at *
      have hps : ∃ q, a.p = some q := hSg.some (by omega)
      refine sgo ?_
      refine wlalloc fun b2 w2 hb2 ho2 hf2 => ?_
      refine wlstorea0 (hv := by exact ⟨by rw [hseg]; rfl, rfl⟩) (h1 := by rw [hseg]; simp [At.cells, Value.oneCell']) ho2 fun w3 ho3 hl3 => ?_
      rw [hseg] at ho3
      have hfr3 := (hfr.trans hf2).step hl3 (by have := hfr.size; simp; omega)
      simp only [At.cells] at ho3
      clear hseg hSg ho2
      refine sgo ?_
      (show WC _ _ _ _ _ _ _; first | refine WC_dec rfl (fun hc => ?_) (fun hc => ?_) | refine WC_cond rfl (fun hc => ?_) (fun hc => ?_))
      · have hxn : x.n = n := hc
        have hz := attrR_hit hx hxn hne
        rw [hA] at hz
        obtain rfl := Option.some.inj hz
        refine sgo ?_
        refine wlcallgp (vals := []) (fun _ => lives_ok _) (fun w5 hf5 => ?_) (ha := fun _ => rfl)
        have hfr5 := hfr3.trans hf5
        refine sgo ?_
        (first | refine fp1 (.inl rfl) rfl rfl ?_ | refine fp2 (.inl rfl) rfl rfl rfl ?_ | refine fp3 (.inl rfl) rfl rfl rfl rfl ?_ | refine fp0 (.inr rfl) rfl ?_ | refine fp0 (.inl rfl) rfl ?_ | refine fp1 (.inr rfl) rfl rfl ?_); refine ⟨?_, by (first | exact Frm.refl _ | assumption | (refine Frm.trans ?_ (by assumption); first | exact Frm.refl _ | assumption))⟩; (try simp only [realB, rv_true, Nat.reduceBEq, cond_true, cond_false, entG, real_lif, updGL])
        simp [pkb]
      · have hxn : ¬ x.n = n := hc
        refine sgo ?_
        exact ⟨i + 1, ⟨rfl, rfl, rfl, rfl, rfl, rfl, rfl, trivial⟩, ⟨by omega, miss_succ hx hxn hne, hfr3⟩, by omega⟩
    · rw [List.take_of_length_le (by omega)] at hne
      rw [attrR_miss hne] at hA
      cases hA
end Go.Proofs.Ytfomfplddncakaa
