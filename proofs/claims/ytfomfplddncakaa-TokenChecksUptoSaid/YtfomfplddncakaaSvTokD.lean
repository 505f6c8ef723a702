/-
  Tokens: which may be.
-/
import Derived.Test.YtfomfplddncakaaSvTokC
namespace Go.Proofs.Ytfomfplddncakaa
open Go Go.Sv Go.RowKit

structure Tok where
  kind : Int
  name : List UInt8
  text : List UInt8
  attrs : List At
  self : Bool
  a : Int
  b : Int
  d : Int
  deriving DecidableEq
def Tok.cells (t : Tok) (p : Option Addr) (c : Nat) : List Value := [int t.kind, str t.name, str t.text, .slice p t.attrs.length c, .bool t.self, int t.a, int t.b, int t.d]
structure Tok.small (t : Tok) : Prop where
  name : t.name.length ≤ 1048576
  text : t.text.length ≤ 1048576
  attrs : t.attrs.length ≤ 1048576
  each : ∀ x ∈ t.attrs, x.small
def bareR (t : Tok) : Bool := decide (t.name = []) && (decide (t.attrs.length = 0) && !t.self)
/-- may a token be? -/
def mayR (t : Tok) : Bool :=
  if t.kind = 0 then bareR t && (!decide (t.text = []) && validR t.text)
  else if t.kind = 1 then nameR false t.name && (decide (t.text = []) && attrsR t.attrs)
  else if t.kind = 2 then nameR false t.name && (decide (t.text = []) && (decide (t.attrs.length = 0) && !t.self))
  else if t.kind = 3 then bareR t && validR t.text
  else if t.kind = 4 then bareR t && decide (t.text = [])
  else false

set_option maxHeartbeats 4000000 in
theorem check_ok (t : Tok) (p : Option Addr) (c : Nat) (hs : t.small) (w : World) (hi : Im [] w p (t.attrs.flatMap At.cells)) :
    PureC Try.prog 14 #[.agg ⟨t.cells p c⟩] w (int (if mayR t then 0 else 70)) := by
  obtain ⟨k, nm, tx, es, sf, a, b, d⟩ := t
  obtain ⟨h1, h2, h3, h4⟩ := hs
  dsimp only at h1 h2 h3 h4 hi
  refine enter (l := [.agg ⟨Tok.cells ⟨k, nm, tx, es, sf, a, b, d⟩ p c⟩]) Try.func14 rfl Try.ntmps14 (by kernel_rfl) rfl ?_
  refine sgo ?_
  refine wlbox (v := .agg ⟨Tok.cells ⟨k, nm, tx, es, sf, a, b, d⟩ p c⟩) (hx := rfl) fun b1 w1 hb1 ho hf1 => ?_
  simp only [Tok.cells, Value.cells] at ho
  refine sgo ?_
  (show WC _ _ _ _ _ _ _; first | refine WC_dec rfl (fun hc => ?_) (fun hc => ?_) | refine WC_cond rfl (fun hc => ?_) (fun hc => ?_))
  · have hk : k = 0 := hc
    clear hc
    refine sgo ?_
    refine wlcallgp (vals := [str tx]) (fun _ => tokValid_ok tx h2 _) fun w2 hf2 => ?_
    replace ho := ho.frm hf2
    have hf := hf1.trans hf2
    refine sgo ?_
    (show WC _ _ _ _ _ _ _; first | refine WC_dec rfl (fun hc => ?_) (fun hc => ?_) | refine WC_cond rfl (fun hc => ?_) (fun hc => ?_))
    · refine sgo ?_
      (first | refine fp1 (.inl rfl) rfl rfl ?_ | refine fp2 (.inl rfl) rfl rfl rfl ?_ | refine fp3 (.inl rfl) rfl rfl rfl rfl ?_ | refine fp0 (.inr rfl) rfl ?_ | refine fp0 (.inl rfl) rfl ?_ | refine fp1 (.inr rfl) rfl rfl ?_); refine ⟨?_, by (first | exact Frm.refl _ | assumption | (refine Frm.trans ?_ (by assumption); first | exact Frm.refl _ | assumption))⟩; (try simp only [realB, rv_true, Nat.reduceBEq, cond_true, cond_false, entG, real_lif, updGL])
      have : mayR ⟨k, nm, tx, es, sf, a, b, d⟩ = false := by
        simp only [mayR, bareR, hk, if_pos]
        simp only [pkb_and] at hc
        grind
      rw [this]; rfl
    · refine sgo ?_
      (first | refine fp1 (.inl rfl) rfl rfl ?_ | refine fp2 (.inl rfl) rfl rfl rfl ?_ | refine fp3 (.inl rfl) rfl rfl rfl rfl ?_ | refine fp0 (.inr rfl) rfl ?_ | refine fp0 (.inl rfl) rfl ?_ | refine fp1 (.inr rfl) rfl rfl ?_); refine ⟨?_, by (first | exact Frm.refl _ | assumption | (refine Frm.trans ?_ (by assumption); first | exact Frm.refl _ | assumption))⟩; (try simp only [realB, rv_true, Nat.reduceBEq, cond_true, cond_false, entG, real_lif, updGL])
      have : mayR ⟨k, nm, tx, es, sf, a, b, d⟩ = true := by
        simp only [mayR, bareR, hk, if_pos]
        simp only [pkb_and] at hc
        grind
      rw [this]; rfl
  · have hk0 : ¬ k = 0 := hc
    clear hc
    refine sgo ?_
    (show WC _ _ _ _ _ _ _; first | refine WC_dec rfl (fun hc => ?_) (fun hc => ?_) | refine WC_cond rfl (fun hc => ?_) (fun hc => ?_))
    · have hk : k = 1 := hc
      clear hc
      refine sgo ?_
      refine wlpure (name_ok nm false h1 _) fun w2 hf2 => ?_
      replace ho := ho.frm hf2
      have hf := hf1.trans hf2
      refine sgo ?_
      refine wlcallgp (vals := [.slice p es.length c]) (fun _ => attrs_ok es p _ c rfl h3 h4 _ (hi.frm hf)) fun w3 hf3 => ?_
      replace ho := ho.frm hf3
      replace hf := hf.trans hf3
      refine sgo ?_
      (show WC _ _ _ _ _ _ _; first | refine WC_dec rfl (fun hc => ?_) (fun hc => ?_) | refine WC_cond rfl (fun hc => ?_) (fun hc => ?_))
      · refine sgo ?_
        (first | refine fp1 (.inl rfl) rfl rfl ?_ | refine fp2 (.inl rfl) rfl rfl rfl ?_ | refine fp3 (.inl rfl) rfl rfl rfl rfl ?_ | refine fp0 (.inr rfl) rfl ?_ | refine fp0 (.inl rfl) rfl ?_ | refine fp1 (.inr rfl) rfl rfl ?_); refine ⟨?_, by (first | exact Frm.refl _ | assumption | (refine Frm.trans ?_ (by assumption); first | exact Frm.refl _ | assumption))⟩; (try simp only [realB, rv_true, Nat.reduceBEq, cond_true, cond_false, entG, real_lif, updGL])
        have : mayR ⟨k, nm, tx, es, sf, a, b, d⟩ = false := by
          simp only [mayR, bareR, hk, if_pos]
          simp only [pkb_and] at hc
          grind
        rw [this]; rfl
      · refine sgo ?_
        (first | refine fp1 (.inl rfl) rfl rfl ?_ | refine fp2 (.inl rfl) rfl rfl rfl ?_ | refine fp3 (.inl rfl) rfl rfl rfl rfl ?_ | refine fp0 (.inr rfl) rfl ?_ | refine fp0 (.inl rfl) rfl ?_ | refine fp1 (.inr rfl) rfl rfl ?_); refine ⟨?_, by (first | exact Frm.refl _ | assumption | (refine Frm.trans ?_ (by assumption); first | exact Frm.refl _ | assumption))⟩; (try simp only [realB, rv_true, Nat.reduceBEq, cond_true, cond_false, entG, real_lif, updGL])
        have : mayR ⟨k, nm, tx, es, sf, a, b, d⟩ = true := by
          simp only [mayR, bareR, hk, if_pos]
          simp only [pkb_and] at hc
          grind
        rw [this]; rfl
    · have hk1 : ¬ k = 1 := hc
      clear hc
      refine sgo ?_
      (show WC _ _ _ _ _ _ _; first | refine WC_dec rfl (fun hc => ?_) (fun hc => ?_) | refine WC_cond rfl (fun hc => ?_) (fun hc => ?_))
      · have hk : k = 2 := hc
        clear hc
        refine sgo ?_
        refine wlpure (name_ok nm false h1 _) fun w2 hf2 => ?_
        replace ho := ho.frm hf2
        have hf := hf1.trans hf2
        refine sgo ?_
        (show WC _ _ _ _ _ _ _; first | refine WC_dec rfl (fun hc => ?_) (fun hc => ?_) | refine WC_cond rfl (fun hc => ?_) (fun hc => ?_))
        · refine sgo ?_
          (first | refine fp1 (.inl rfl) rfl rfl ?_ | refine fp2 (.inl rfl) rfl rfl rfl ?_ | refine fp3 (.inl rfl) rfl rfl rfl rfl ?_ | refine fp0 (.inr rfl) rfl ?_ | refine fp0 (.inl rfl) rfl ?_ | refine fp1 (.inr rfl) rfl rfl ?_); refine ⟨?_, by (first | exact Frm.refl _ | assumption | (refine Frm.trans ?_ (by assumption); first | exact Frm.refl _ | assumption))⟩; (try simp only [realB, rv_true, Nat.reduceBEq, cond_true, cond_false, entG, real_lif, updGL])
          have : mayR ⟨k, nm, tx, es, sf, a, b, d⟩ = false := by
            simp only [mayR, bareR, hk, if_pos]
            simp only [pkb_and] at hc
            grind
          rw [this]; rfl
        · refine sgo ?_
          (first | refine fp1 (.inl rfl) rfl rfl ?_ | refine fp2 (.inl rfl) rfl rfl rfl ?_ | refine fp3 (.inl rfl) rfl rfl rfl rfl ?_ | refine fp0 (.inr rfl) rfl ?_ | refine fp0 (.inl rfl) rfl ?_ | refine fp1 (.inr rfl) rfl rfl ?_); refine ⟨?_, by (first | exact Frm.refl _ | assumption | (refine Frm.trans ?_ (by assumption); first | exact Frm.refl _ | assumption))⟩; (try simp only [realB, rv_true, Nat.reduceBEq, cond_true, cond_false, entG, real_lif, updGL])
          have : mayR ⟨k, nm, tx, es, sf, a, b, d⟩ = true := by
            simp only [mayR, bareR, hk, if_pos]
            simp only [pkb_and] at hc
            grind
          rw [this]; rfl
      · have hk2 : ¬ k = 2 := hc
        clear hc
        refine sgo ?_
        (show WC _ _ _ _ _ _ _; first | refine WC_dec rfl (fun hc => ?_) (fun hc => ?_) | refine WC_cond rfl (fun hc => ?_) (fun hc => ?_))
        · have hk : k = 3 := hc
          clear hc
          refine sgo ?_
          refine wlpure (tokValid_ok tx h2 _) fun w2 hf2 => ?_
          replace ho := ho.frm hf2
          have hf := hf1.trans hf2
          refine sgo ?_
          (show WC _ _ _ _ _ _ _; first | refine WC_dec rfl (fun hc => ?_) (fun hc => ?_) | refine WC_cond rfl (fun hc => ?_) (fun hc => ?_))
          · refine sgo ?_
            (first | refine fp1 (.inl rfl) rfl rfl ?_ | refine fp2 (.inl rfl) rfl rfl rfl ?_ | refine fp3 (.inl rfl) rfl rfl rfl rfl ?_ | refine fp0 (.inr rfl) rfl ?_ | refine fp0 (.inl rfl) rfl ?_ | refine fp1 (.inr rfl) rfl rfl ?_); refine ⟨?_, by (first | exact Frm.refl _ | assumption | (refine Frm.trans ?_ (by assumption); first | exact Frm.refl _ | assumption))⟩; (try simp only [realB, rv_true, Nat.reduceBEq, cond_true, cond_false, entG, real_lif, updGL])
            have : mayR ⟨k, nm, tx, es, sf, a, b, d⟩ = false := by
              simp only [mayR, bareR, hk, if_pos]
              simp only [pkb_and] at hc
              grind
            rw [this]; rfl
          · refine sgo ?_
            (first | refine fp1 (.inl rfl) rfl rfl ?_ | refine fp2 (.inl rfl) rfl rfl rfl ?_ | refine fp3 (.inl rfl) rfl rfl rfl rfl ?_ | refine fp0 (.inr rfl) rfl ?_ | refine fp0 (.inl rfl) rfl ?_ | refine fp1 (.inr rfl) rfl rfl ?_); refine ⟨?_, by (first | exact Frm.refl _ | assumption | (refine Frm.trans ?_ (by assumption); first | exact Frm.refl _ | assumption))⟩; (try simp only [realB, rv_true, Nat.reduceBEq, cond_true, cond_false, entG, real_lif, updGL])
            have : mayR ⟨k, nm, tx, es, sf, a, b, d⟩ = true := by
              simp only [mayR, bareR, hk, if_pos]
              simp only [pkb_and] at hc
              grind
            rw [this]; rfl
        · have hk3 : ¬ k = 3 := hc
          clear hc
          refine sgo ?_
          (show WC _ _ _ _ _ _ _; first | refine WC_dec rfl (fun hc => ?_) (fun hc => ?_) | refine WC_cond rfl (fun hc => ?_) (fun hc => ?_))
          · have hk : k = 4 := hc
            clear hc
            refine sgo ?_
            (show WC _ _ _ _ _ _ _; first | refine WC_dec rfl (fun hc => ?_) (fun hc => ?_) | refine WC_cond rfl (fun hc => ?_) (fun hc => ?_))
            · refine sgo ?_
              (first | refine fp1 (.inl rfl) rfl rfl ?_ | refine fp2 (.inl rfl) rfl rfl rfl ?_ | refine fp3 (.inl rfl) rfl rfl rfl rfl ?_ | refine fp0 (.inr rfl) rfl ?_ | refine fp0 (.inl rfl) rfl ?_ | refine fp1 (.inr rfl) rfl rfl ?_); refine ⟨?_, by (first | exact Frm.refl _ | assumption | (refine Frm.trans ?_ (by assumption); first | exact Frm.refl _ | assumption))⟩; (try simp only [realB, rv_true, Nat.reduceBEq, cond_true, cond_false, entG, real_lif, updGL])
              have : mayR ⟨k, nm, tx, es, sf, a, b, d⟩ = false := by
                simp only [mayR, bareR, hk, if_pos]
                simp only [pkb_and] at hc
                grind
              rw [this]; rfl
            · refine sgo ?_
              (first | refine fp1 (.inl rfl) rfl rfl ?_ | refine fp2 (.inl rfl) rfl rfl rfl ?_ | refine fp3 (.inl rfl) rfl rfl rfl rfl ?_ | refine fp0 (.inr rfl) rfl ?_ | refine fp0 (.inl rfl) rfl ?_ | refine fp1 (.inr rfl) rfl rfl ?_); refine ⟨?_, by (first | exact Frm.refl _ | assumption | (refine Frm.trans ?_ (by assumption); first | exact Frm.refl _ | assumption))⟩; (try simp only [realB, rv_true, Nat.reduceBEq, cond_true, cond_false, entG, real_lif, updGL])
              have : mayR ⟨k, nm, tx, es, sf, a, b, d⟩ = true := by
                simp only [mayR, bareR, hk, if_pos]
                simp only [pkb_and] at hc
                grind
              rw [this]; rfl
          · have hk4 : ¬ k = 4 := hc
            clear hc
            refine sgo ?_
            (first | refine fp1 (.inl rfl) rfl rfl ?_ | refine fp2 (.inl rfl) rfl rfl rfl ?_ | refine fp3 (.inl rfl) rfl rfl rfl rfl ?_ | refine fp0 (.inr rfl) rfl ?_ | refine fp0 (.inl rfl) rfl ?_ | refine fp1 (.inr rfl) rfl rfl ?_); refine ⟨?_, by (first | exact Frm.refl _ | assumption | (refine Frm.trans ?_ (by assumption); first | exact Frm.refl _ | assumption))⟩; (try simp only [realB, rv_true, Nat.reduceBEq, cond_true, cond_false, entG, real_lif, updGL])
            have : mayR ⟨k, nm, tx, es, sf, a, b, d⟩ = false := by simp [mayR, hk0, hk1, hk2, hk3, hk4]
            rw [this]; rfl

set_option maxHeartbeats 4000000 in
theorem may_ok (t : Tok) (p : Option Addr) (c : Nat) (hs : t.small) (w : World) (hi : Im [] w p (t.attrs.flatMap At.cells)) :
    PureC Try.prog 11 #[.agg ⟨t.cells p c⟩] w (.bool (mayR t)) := by
  obtain ⟨k, nm, tx, es, sf, a, b, d⟩ := t
  obtain ⟨h1, h2, h3, h4⟩ := hs
  dsimp only at h1 h2 h3 h4 hi
  refine enter (l := [.agg ⟨Tok.cells ⟨k, nm, tx, es, sf, a, b, d⟩ p c⟩]) Try.func11 rfl Try.ntmps11 (by kernel_rfl) rfl ?_
  refine sgo ?_
  refine wlbox (v := .agg ⟨Tok.cells ⟨k, nm, tx, es, sf, a, b, d⟩ p c⟩) (hx := rfl) fun b1 w1 hb1 ho hf1 => ?_
  simp only [Tok.cells, Value.cells] at ho
  refine sgo ?_
  (show WC _ _ _ _ _ _ _; first | refine WC_dec rfl (fun hc => ?_) (fun hc => ?_) | refine WC_cond rfl (fun hc => ?_) (fun hc => ?_))
  · have hk : k = 0 := hc
    clear hc
    refine sgo ?_
    refine wlcallgp (vals := [str tx]) (fun _ => refValid7_ok tx h2 _) fun w2 hf2 => ?_
    have hf := hf1.trans hf2
    refine sgo ?_
    (first | refine fp1 (.inl rfl) rfl rfl ?_ | refine fp2 (.inl rfl) rfl rfl rfl ?_ | refine fp3 (.inl rfl) rfl rfl rfl rfl ?_ | refine fp0 (.inr rfl) rfl ?_ | refine fp0 (.inl rfl) rfl ?_ | refine fp1 (.inr rfl) rfl rfl ?_); refine ⟨?_, by (first | exact Frm.refl _ | assumption | (refine Frm.trans ?_ (by assumption); first | exact Frm.refl _ | assumption))⟩; (try simp only [realB, rv_true, Nat.reduceBEq, cond_true, cond_false, entG, real_lif, updGL])
    refine congrArg Value.bool ?_
    simp only [mayR, bareR, hk, if_pos]
    simp only [pkb_and]
    grind
  · have hk0 : ¬ k = 0 := hc
    clear hc
    refine sgo ?_
    (show WC _ _ _ _ _ _ _; first | refine WC_dec rfl (fun hc => ?_) (fun hc => ?_) | refine WC_cond rfl (fun hc => ?_) (fun hc => ?_))
    · have hk : k = 1 := hc
      clear hc
      refine sgo ?_
      refine wlpure (tagName_ok nm h1 _) fun w2 hf2 => ?_
      replace ho := ho.frm hf2
      have hf := hf1.trans hf2
      refine sgo ?_
      refine wlcallgp (vals := [.slice p es.length c]) (fun _ => refAttrs_ok es p _ c rfl h3 h4 _ (hi.frm hf)) fun w3 hf3 => ?_
      replace hf := hf.trans hf3
      refine sgo ?_
      (first | refine fp1 (.inl rfl) rfl rfl ?_ | refine fp2 (.inl rfl) rfl rfl rfl ?_ | refine fp3 (.inl rfl) rfl rfl rfl rfl ?_ | refine fp0 (.inr rfl) rfl ?_ | refine fp0 (.inl rfl) rfl ?_ | refine fp1 (.inr rfl) rfl rfl ?_); refine ⟨?_, by (first | exact Frm.refl _ | assumption | (refine Frm.trans ?_ (by assumption); first | exact Frm.refl _ | assumption))⟩; (try simp only [realB, rv_true, Nat.reduceBEq, cond_true, cond_false, entG, real_lif, updGL])
      refine congrArg Value.bool ?_
      simp only [mayR, bareR, hk, if_pos]
      simp only [pkb_and]
      grind
    · have hk1 : ¬ k = 1 := hc
      clear hc
      refine sgo ?_
      (show WC _ _ _ _ _ _ _; first | refine WC_dec rfl (fun hc => ?_) (fun hc => ?_) | refine WC_cond rfl (fun hc => ?_) (fun hc => ?_))
      · have hk : k = 2 := hc
        clear hc
        refine sgo ?_
        refine wlpure (tagName_ok nm h1 _) fun w2 hf2 => ?_
        replace ho := ho.frm hf2
        have hf := hf1.trans hf2
        refine sgo ?_
        (first | refine fp1 (.inl rfl) rfl rfl ?_ | refine fp2 (.inl rfl) rfl rfl rfl ?_ | refine fp3 (.inl rfl) rfl rfl rfl rfl ?_ | refine fp0 (.inr rfl) rfl ?_ | refine fp0 (.inl rfl) rfl ?_ | refine fp1 (.inr rfl) rfl rfl ?_); refine ⟨?_, by (first | exact Frm.refl _ | assumption | (refine Frm.trans ?_ (by assumption); first | exact Frm.refl _ | assumption))⟩; (try simp only [realB, rv_true, Nat.reduceBEq, cond_true, cond_false, entG, real_lif, updGL])
        refine congrArg Value.bool ?_
        simp only [mayR, bareR, hk, if_pos]
        simp only [pkb_and]
        grind
      · have hk2 : ¬ k = 2 := hc
        clear hc
        refine sgo ?_
        (show WC _ _ _ _ _ _ _; first | refine WC_dec rfl (fun hc => ?_) (fun hc => ?_) | refine WC_cond rfl (fun hc => ?_) (fun hc => ?_))
        · have hk : k = 3 := hc
          clear hc
          refine sgo ?_
          refine wlcallgp (vals := [str tx]) (fun _ => refValid7_ok tx h2 _) fun w2 hf2 => ?_
          have hf := hf1.trans hf2
          refine sgo ?_
          (first | refine fp1 (.inl rfl) rfl rfl ?_ | refine fp2 (.inl rfl) rfl rfl rfl ?_ | refine fp3 (.inl rfl) rfl rfl rfl rfl ?_ | refine fp0 (.inr rfl) rfl ?_ | refine fp0 (.inl rfl) rfl ?_ | refine fp1 (.inr rfl) rfl rfl ?_); refine ⟨?_, by (first | exact Frm.refl _ | assumption | (refine Frm.trans ?_ (by assumption); first | exact Frm.refl _ | assumption))⟩; (try simp only [realB, rv_true, Nat.reduceBEq, cond_true, cond_false, entG, real_lif, updGL])
          refine congrArg Value.bool ?_
          simp only [mayR, bareR, hk, if_pos]
          simp only [pkb_and]
          grind
        · have hk3 : ¬ k = 3 := hc
          clear hc
          refine sgo ?_
          (show WC _ _ _ _ _ _ _; first | refine WC_dec rfl (fun hc => ?_) (fun hc => ?_) | refine WC_cond rfl (fun hc => ?_) (fun hc => ?_))
          · have hk : k = 4 := hc
            clear hc
            refine sgo ?_
            (first | refine fp1 (.inl rfl) rfl rfl ?_ | refine fp2 (.inl rfl) rfl rfl rfl ?_ | refine fp3 (.inl rfl) rfl rfl rfl rfl ?_ | refine fp0 (.inr rfl) rfl ?_ | refine fp0 (.inl rfl) rfl ?_ | refine fp1 (.inr rfl) rfl rfl ?_); refine ⟨?_, by (first | exact Frm.refl _ | assumption | (refine Frm.trans ?_ (by assumption); first | exact Frm.refl _ | assumption))⟩; (try simp only [realB, rv_true, Nat.reduceBEq, cond_true, cond_false, entG, real_lif, updGL])
            refine congrArg Value.bool ?_
            simp only [mayR, bareR, hk, if_pos]
            simp only [pkb_and]
            grind
          · have hk4 : ¬ k = 4 := hc
            clear hc
            refine sgo ?_
            (first | refine fp1 (.inl rfl) rfl rfl ?_ | refine fp2 (.inl rfl) rfl rfl rfl ?_ | refine fp3 (.inl rfl) rfl rfl rfl rfl ?_ | refine fp0 (.inr rfl) rfl ?_ | refine fp0 (.inl rfl) rfl ?_ | refine fp1 (.inr rfl) rfl rfl ?_); refine ⟨?_, by (first | exact Frm.refl _ | assumption | (refine Frm.trans ?_ (by assumption); first | exact Frm.refl _ | assumption))⟩; (try simp only [realB, rv_true, Nat.reduceBEq, cond_true, cond_false, entG, real_lif, updGL])
            have : mayR ⟨k, nm, tx, es, sf, a, b, d⟩ = false := by simp [mayR, hk0, hk1, hk2, hk3, hk4]
            rw [this]
end Go.Proofs.Ytfomfplddncakaa
