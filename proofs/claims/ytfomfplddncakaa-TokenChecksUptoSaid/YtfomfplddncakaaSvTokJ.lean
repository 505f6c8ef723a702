/-
  Packages token and sieveref07: Equal, Attr, SameAttrs; sievelaw07: TokenChecks.
-/
import Derived.Test.YtfomfplddncakaaSvTokH
import Derived.Test.YtfomfplddncakaaSvTabE
namespace Go.Proofs.Ytfomfplddncakaa
open Go Go.Sv Go.RowKit

def eqR (a b : Tok) : Bool := decide (a.kind = b.kind) && (decide (a.name = b.name) && (decide (a.text = b.text) && (decide (a.self = b.self) && decide (a.attrs = b.attrs))))
theorem at_get0 {es : List At} {i : Nat} {x : At} (hx : es[i]? = some x) : (es.flatMap At.cells)[i * 2]? = some (str x.n) := by
  have := fm_get At.len es i 0 (by omega)
  rw [Nat.add_zero, hx] at this
  exact this
theorem at_get1 {es : List At} {i : Nat} {x : At} (hx : es[i]? = some x) : (es.flatMap At.cells)[i * 2 + 1]? = some (str x.v) := by
  have := fm_get At.len es i 1 (by omega)
  rw [hx] at this
  exact this
theorem at_ext {x y : At} : x = y ↔ x.n = y.n ∧ x.v = y.v := by cases x; cases y; simp
theorem take_eq_succ {α : Type} {l l' : List α} {i : Nat} {x : α} (h : l.take i = l'.take i) (hx : l[i]? = some x) (hy : l'[i]? = some x) : l.take (i + 1) = l'.take (i + 1) := by
  rw [List.take_add_one, List.take_add_one, h, hx, hy]

set_option maxHeartbeats 2000000 in
theorem sameAttrs_ok (es fs : List At) (p q : Option Addr) (c c' : Nat) (hb : es.length ≤ 1048576) (hb' : fs.length ≤ 1048576) (w : World) (hi : Im [] w p (es.flatMap At.cells)) (hj : Im [] w q (fs.flatMap At.cells)) :
    PureC Try.prog 36 #[.slice p es.length c, .slice q fs.length c'] w (.bool (decide (es = fs))) := by
  have hl1 := fm_len At.len es
  have hl2 := fm_len At.len fs
  refine enter (l := [.slice p es.length c, .slice q fs.length c']) Try.func36 rfl Try.ntmps36 (by kernel_rfl) rfl ?_
  refine sgo ?_
  (show WC _ _ _ _ _ _ _; first | refine WC_dec rfl (fun hc => ?_) (fun hc => ?_) | refine WC_cond rfl (fun hc => ?_) (fun hc => ?_))
  · refine sgo ?_
    (first | refine fp1 (.inl rfl) rfl rfl ?_ | refine fp2 (.inl rfl) rfl rfl rfl ?_ | refine fp3 (.inl rfl) rfl rfl rfl rfl ?_ | refine fp0 (.inr rfl) rfl ?_ | refine fp0 (.inl rfl) rfl ?_ | refine fp1 (.inr rfl) rfl rfl ?_); refine ⟨?_, by (first | exact Frm.refl _ | assumption | (refine Frm.trans ?_ (by assumption); first | exact Frm.refl _ | assumption))⟩; (try simp only [realB, rv_true, Nat.reduceBEq, cond_true, cond_false, entG, real_lif, updGL])
    rw [decide_eq_false]
    rintro rfl
    exact hc rfl
  have hle : es.length = fs.length := by
    have : ¬ ((es.length : Int) ≠ fs.length) := hc
    omega
  clear hc
  refine sgo ?_
  refine wcloop (X := Nat) (fun i => [(0, .slice p es.length c), (1, .slice q fs.length c'), (12, int es.length), (13, int i)]) (fun i wr => i ≤ es.length ∧ es.take i = fs.take i ∧ Frm w wr) (fun i => es.length - i) 0 ⟨rfl, rfl, rfl, rfl, trivial⟩ ⟨by omega, rfl, Frm.refl _⟩ ?_
  rintro i wr ρ ⟨hil, htk, hf⟩
  have hIr := hi.frm hf
  have hJr := hj.frm hf
  refine sgo ?_
  (show WC _ _ _ _ _ _ _; first | refine WC_dec rfl (fun hc => ?_) (fun hc => ?_) | refine WC_cond rfl (fun hc => ?_) (fun hc => ?_))
  · have hlt : i < es.length := by omega
    have hx : es[i]? = some es[i] := List.getElem?_eq_getElem hlt
    have hy : fs[i]? = some fs[i] := List.getElem?_eq_getElem (by omega)
    generalize es[i] = x at *
    generalize fs[i] = y at *
    have g0 := at_get0 hx
    have g1 := at_get1 hx
    have k0 := at_get0 hy
    have k1 := at_get1 hy
    refine sgo ?_
    (first | refine WC_seq ?_ | skip); refine wcdraw ?_
    refine qgo ?_
    refine QL_nil ?_; intro wd hwd
    have hfd := hf.trans hwd
    refine sgo ?_
    (show WC _ _ _ _ _ _ _; first | refine WC_dec rfl (fun hc => ?_) (fun hc => ?_) | refine WC_cond rfl (fun hc => ?_) (fun hc => ?_))
    · refine sgo ?_
      (first | refine fp1 (.inl rfl) rfl rfl ?_ | refine fp2 (.inl rfl) rfl rfl rfl ?_ | refine fp3 (.inl rfl) rfl rfl rfl rfl ?_ | refine fp0 (.inr rfl) rfl ?_ | refine fp0 (.inl rfl) rfl ?_ | refine fp1 (.inr rfl) rfl rfl ?_); refine ⟨?_, by (first | exact Frm.refl _ | assumption | (refine Frm.trans ?_ (by assumption); first | exact Frm.refl _ | assumption))⟩; (try simp only [realB, rv_true, Nat.reduceBEq, cond_true, cond_false, entG, real_lif, updGL])
      rw [decide_eq_false]
      rintro rfl
      rw [hx] at hy
      obtain rfl := Option.some.inj hy
      revert hc; simp [pkb]
    · refine sgo ?_
      refine ⟨i + 1, ⟨rfl, rfl, rfl, rfl, trivial⟩, ⟨by omega, ?_, hfd⟩, by omega⟩
      have hxy : x = y := by
        rw [at_ext]
        revert hc; simp [pkb]
      rw [← hxy] at hy
      exact take_eq_succ htk hx hy
  · refine sgo ?_
    (first | refine fp1 (.inl rfl) rfl rfl ?_ | refine fp2 (.inl rfl) rfl rfl rfl ?_ | refine fp3 (.inl rfl) rfl rfl rfl rfl ?_ | refine fp0 (.inr rfl) rfl ?_ | refine fp0 (.inl rfl) rfl ?_ | refine fp1 (.inr rfl) rfl rfl ?_); refine ⟨?_, by (first | exact Frm.refl _ | assumption | (refine Frm.trans ?_ (by assumption); first | exact Frm.refl _ | assumption))⟩; (try simp only [realB, rv_true, Nat.reduceBEq, cond_true, cond_false, entG, real_lif, updGL])
    rw [decide_eq_true]
    rwa [List.take_of_length_le (by omega), List.take_of_length_le (by omega)] at htk

set_option maxHeartbeats 1000000 in
theorem equal_ok (a b : TokM) (ha : a.t.small) (hb : b.t.small) (w : World) (hi : Im [] w a.p (a.t.attrs.flatMap At.cells)) (hj : Im [] w b.p (b.t.attrs.flatMap At.cells)) :
    PureC Try.prog 15 #[.agg ⟨a.cells⟩, .agg ⟨b.cells⟩] w (.bool (eqR a.t b.t)) := by
  obtain ⟨⟨k, nm, tx, es, sf, a1, a2, a3⟩, p, c⟩ := a
  obtain ⟨⟨k', nm', tx', fs, sf', a1', a2', a3'⟩, q, c'⟩ := b
  have hb1 := ha.attrs
  have hb2 := hb.attrs
  dsimp only at hb1 hb2 hi hj
  have hl1 := fm_len At.len es
  have hl2 := fm_len At.len fs
  refine enter (l := [.agg ⟨TokM.cells ⟨⟨k, nm, tx, es, sf, a1, a2, a3⟩, p, c⟩⟩, .agg ⟨TokM.cells ⟨⟨k', nm', tx', fs, sf', a1', a2', a3'⟩, q, c'⟩⟩]) Try.func15 rfl Try.ntmps15 (by kernel_rfl) rfl ?_
  refine sgo ?_
  refine wlbox (v := .agg ⟨TokM.cells ⟨⟨k, nm, tx, es, sf, a1, a2, a3⟩, p, c⟩⟩) (hx := rfl) fun b1 w1 hb1 ho hf1 => ?_
  refine wlbox (v := .agg ⟨TokM.cells ⟨⟨k', nm', tx', fs, sf', a1', a2', a3'⟩, q, c'⟩⟩) (hx := rfl) fun b2 w2 hb2 ho2 hf2 => ?_
  replace ho := ho.frm hf2
  simp only [TokM.cells, Tok.cells, Value.cells] at ho ho2
  have hf := hf1.trans hf2
  refine sgo ?_
  (show WC _ _ _ _ _ _ _; first | refine WC_dec rfl (fun hc => ?_) (fun hc => ?_) | refine WC_cond rfl (fun hc => ?_) (fun hc => ?_))
  · refine sgo ?_
    (first | refine fp1 (.inl rfl) rfl rfl ?_ | refine fp2 (.inl rfl) rfl rfl rfl ?_ | refine fp3 (.inl rfl) rfl rfl rfl rfl ?_ | refine fp0 (.inr rfl) rfl ?_ | refine fp0 (.inl rfl) rfl ?_ | refine fp1 (.inr rfl) rfl rfl ?_); refine ⟨?_, by (first | exact Frm.refl _ | assumption | (refine Frm.trans ?_ (by assumption); first | exact Frm.refl _ | assumption))⟩; (try simp only [realB, rv_true, Nat.reduceBEq, cond_true, cond_false, entG, real_lif, updGL])
    have : eqR ⟨k, nm, tx, es, sf, a1, a2, a3⟩ ⟨k', nm', tx', fs, sf', a1', a2', a3'⟩ = false := by
      unfold eqR
      dsimp only
      by_cases h : es = fs
      · subst h; simp only [pkb_or] at hc; grind
      · rw [decide_eq_false h]; simp
    rw [this]
  have hall : k = k' ∧ nm = nm' ∧ tx = tx' ∧ sf = sf' ∧ es.length = fs.length := by
    simp only [pkb_or] at hc; grind
  clear hc
  obtain ⟨e1, e2, e3, e4, hle⟩ := hall
  refine sgo ?_
  refine wcloop (X := Nat) (fun i => [(2, ptrAt (pb b1) 0), (3, ptrAt (pb b2) 0), (43, int es.length), (44, int i)]) (fun i wr => i ≤ es.length ∧ es.take i = fs.take i ∧ Frm w wr ∧ Own wr b1 [int k, str nm, str tx, .slice p es.length c, .bool sf, int a1, int a2, int a3] ∧ Own wr b2 [int k', str nm', str tx', .slice q fs.length c', .bool sf', int a1', int a2', int a3']) (fun i => es.length - i) 0 ⟨rfl, rfl, rfl, rfl, trivial⟩ ⟨by omega, rfl, hf, ho, ho2⟩ ?_
  clear ho ho2
  rintro i wr ρ ⟨hil, htk, hfr, ho, ho2⟩
  have hIr := hi.frm hfr
  have hJr := hj.frm hfr
  refine sgo ?_
  (show WC _ _ _ _ _ _ _; first | refine WC_dec rfl (fun hc => ?_) (fun hc => ?_) | refine WC_cond rfl (fun hc => ?_) (fun hc => ?_))
  · have hlt : i < es.length := by omega
    have hx : es[i]? = some es[i] := List.getElem?_eq_getElem hlt
    have hy : fs[i]? = some fs[i] := List.getElem?_eq_getElem (by omega)
    have s1 := fm_seg At.len es hx
    have s2 := fm_seg At.len fs hy
    generalize es[i] = x at *
    generalize fs[i] = y at *
    have hps : ∃ a, p = some a := hIr.some (by omega)
    have hqs : ∃ a, q = some a := hJr.some (by omega)
    refine sgo ?_
    (first | refine WC_seq ?_ | skip); refine wcdraw ?_
    refine qgo ?_
    refine ql ?_ (YQ.ofY fun wq hwq => y_aneq rfl rfl (r := decide (x.n = y.n) && (decide (x.v = y.v) && true)) (by rw [s1, s2]; rfl))
    refine qgo ?_
    refine QL_nil ?_; intro wd hwd
    have hfd := hfr.trans hwd
    replace ho := ho.frm hwd
    replace ho2 := ho2.frm hwd
    refine sgo ?_
    (show WC _ _ _ _ _ _ _; first | refine WC_dec rfl (fun hc => ?_) (fun hc => ?_) | refine WC_cond rfl (fun hc => ?_) (fun hc => ?_))
    · refine sgo ?_
      (first | refine fp1 (.inl rfl) rfl rfl ?_ | refine fp2 (.inl rfl) rfl rfl rfl ?_ | refine fp3 (.inl rfl) rfl rfl rfl rfl ?_ | refine fp0 (.inr rfl) rfl ?_ | refine fp0 (.inl rfl) rfl ?_ | refine fp1 (.inr rfl) rfl rfl ?_); refine ⟨?_, by (first | exact Frm.refl _ | assumption | (refine Frm.trans ?_ (by assumption); first | exact Frm.refl _ | assumption))⟩; (try simp only [realB, rv_true, Nat.reduceBEq, cond_true, cond_false, entG, real_lif, updGL])
      have : eqR ⟨k, nm, tx, es, sf, a1, a2, a3⟩ ⟨k', nm', tx', fs, sf', a1', a2', a3'⟩ = false := by
        unfold eqR
        dsimp only
        have : es ≠ fs := by
          rintro rfl
          rw [hx] at hy
          obtain rfl := Option.some.inj hy
          revert hc; simp
        rw [decide_eq_false this]; simp
      rw [this]
    · refine sgo ?_
      refine ⟨i + 1, ⟨rfl, rfl, rfl, rfl, trivial⟩, ⟨by omega, ?_, hfd, ho, ho2⟩, by omega⟩
      have hxy : x = y := by
        rw [at_ext]
        revert hc; simp
      rw [← hxy] at hy
      exact take_eq_succ htk hx hy
  · refine sgo ?_
    (first | refine fp1 (.inl rfl) rfl rfl ?_ | refine fp2 (.inl rfl) rfl rfl rfl ?_ | refine fp3 (.inl rfl) rfl rfl rfl rfl ?_ | refine fp0 (.inr rfl) rfl ?_ | refine fp0 (.inl rfl) rfl ?_ | refine fp1 (.inr rfl) rfl rfl ?_); refine ⟨?_, by (first | exact Frm.refl _ | assumption | (refine Frm.trans ?_ (by assumption); first | exact Frm.refl _ | assumption))⟩; (try simp only [realB, rv_true, Nat.reduceBEq, cond_true, cond_false, entG, real_lif, updGL])
    have : eqR ⟨k, nm, tx, es, sf, a1, a2, a3⟩ ⟨k', nm', tx', fs, sf', a1', a2', a3'⟩ = true := by
      unfold eqR
      rw [List.take_of_length_le (by omega), List.take_of_length_le (by omega)] at htk
      simp [e1, e2, e3, e4, htk]
    rw [this]

set_option maxHeartbeats 2000000 in
theorem refEqual_ok (a b : TokM) (ha : a.t.small) (hb : b.t.small) (w : World) (hi : Im [] w a.p (a.t.attrs.flatMap At.cells)) (hj : Im [] w b.p (b.t.attrs.flatMap At.cells)) :
    PureC Try.prog 16 #[.agg ⟨a.cells⟩, .agg ⟨b.cells⟩] w (.bool (eqR a.t b.t)) := by
  obtain ⟨⟨k, nm, tx, es, sf, a1, a2, a3⟩, p, c⟩ := a
  obtain ⟨⟨k', nm', tx', fs, sf', a1', a2', a3'⟩, q, c'⟩ := b
  have hb1 := ha.attrs
  have hb2 := hb.attrs
  dsimp only at hb1 hb2 hi hj
  refine enter (l := [.agg ⟨TokM.cells ⟨⟨k, nm, tx, es, sf, a1, a2, a3⟩, p, c⟩⟩, .agg ⟨TokM.cells ⟨⟨k', nm', tx', fs, sf', a1', a2', a3'⟩, q, c'⟩⟩]) Try.func16 rfl Try.ntmps16 (by kernel_rfl) rfl ?_
  refine sgo ?_
  refine wlbox (v := .agg ⟨TokM.cells ⟨⟨k, nm, tx, es, sf, a1, a2, a3⟩, p, c⟩⟩) (hx := rfl) fun b1 w1 hb1' ho hf1 => ?_
  refine wlbox (v := .agg ⟨TokM.cells ⟨⟨k', nm', tx', fs, sf', a1', a2', a3'⟩, q, c'⟩⟩) (hx := rfl) fun b2 w2 hb2' ho2 hf2 => ?_
  replace ho := ho.frm hf2
  simp only [TokM.cells, Tok.cells, Value.cells] at ho ho2
  have hf := hf1.trans hf2
  refine sgo ?_
  refine wlcallgp (vals := [.slice p es.length c, .slice q fs.length c']) (fun _ => sameAttrs_ok es fs p q c c' hb1 hb2 _ (hi.frm hf) (hj.frm hf)) fun w3 hf3 => ?_
  replace hf := hf.trans hf3
  refine sgo ?_
  (first | refine fp1 (.inl rfl) rfl rfl ?_ | refine fp2 (.inl rfl) rfl rfl rfl ?_ | refine fp3 (.inl rfl) rfl rfl rfl rfl ?_ | refine fp0 (.inr rfl) rfl ?_ | refine fp0 (.inl rfl) rfl ?_ | refine fp1 (.inr rfl) rfl rfl ?_); refine ⟨?_, by (first | exact Frm.refl _ | assumption | (refine Frm.trans ?_ (by assumption); first | exact Frm.refl _ | assumption))⟩; (try simp only [realB, rv_true, Nat.reduceBEq, cond_true, cond_false, entG, real_lif, updGL])
  refine congrArg Value.bool ?_
  simp only [eqR, pkb_and, Bool.and_assoc]

def attrR (es : List At) (n : List UInt8) : Option At := es.find? fun x => decide (x.n = n)
theorem attrR_hit {es : List At} {i : Nat} {x : At} {n : List UInt8} (hx : es[i]? = some x) (hn : x.n = n) (h : ∀ y ∈ es.take i, y.n ≠ n) : attrR es n = some x := by
  have hlt : i < es.length := (List.getElem?_eq_some_iff.1 hx).1
  have e : es = es.take i ++ x :: es.drop (i + 1) := by
    conv => lhs; rw [← List.take_append_drop i es, List.drop_eq_getElem_cons hlt]
    rw [List.getElem?_eq_getElem hlt] at hx
    rw [Option.some.inj hx]
  unfold attrR
  rw [e, List.find?_append]
  have : (es.take i).find? (fun x => decide (x.n = n)) = none := by
    rw [List.find?_eq_none]
    intro y hy
    simpa using h y hy
  rw [this]
  simp [hn]
theorem attrR_miss {es : List At} {n : List UInt8} (h : ∀ y ∈ es, y.n ≠ n) : attrR es n = none := by
  unfold attrR
  rw [List.find?_eq_none]
  intro y hy
  simpa using h y hy
theorem miss_succ {es : List At} {i : Nat} {x : At} {n : List UInt8} (hx : es[i]? = some x) (hn : x.n ≠ n) (h : ∀ y ∈ es.take i, y.n ≠ n) : ∀ y ∈ es.take (i + 1), y.n ≠ n := by
  intro y hy
  rw [List.take_add_one, hx] at hy
  rcases List.mem_append.1 hy with hy | hy
  · exact h y hy
  · simp at hy; subst hy; exact hn
def attrV (o : Option At) : Value := match o with | some x => .tuple #[str x.v, .bool true] | none => .tuple #[str [], .bool false]

set_option maxHeartbeats 2000000 in
theorem attr_ok (a : TokM) (n : List UInt8) (ha : a.t.small) (w : World) (hi : Im [] w a.p (a.t.attrs.flatMap At.cells)) :
    PureC Try.prog 17 #[.agg ⟨a.cells⟩, str n] w (attrV (attrR a.t.attrs n)) := by
  obtain ⟨⟨k, nm, tx, es, sf, a1, a2, a3⟩, p, c⟩ := a
  have hb := ha.attrs
  dsimp only at hb hi
  have hfl := fm_len At.len es
  refine enter (l := [.agg ⟨TokM.cells ⟨⟨k, nm, tx, es, sf, a1, a2, a3⟩, p, c⟩⟩, str n]) Try.func17 rfl Try.ntmps17 (by kernel_rfl) rfl ?_
  refine sgo ?_
  refine wlbox (v := .agg ⟨TokM.cells ⟨⟨k, nm, tx, es, sf, a1, a2, a3⟩, p, c⟩⟩) (hx := rfl) fun b1 w1 hb1 ho hf1 => ?_
  simp only [TokM.cells, Tok.cells, Value.cells] at ho
  refine sgo ?_
  refine wcloop (X := Nat) (fun i => [(1, str n), (9, .slice p es.length c), (10, int es.length), (11, int i)])
    (fun i wr => i ≤ es.length ∧ (∀ y ∈ es.take i, y.n ≠ n) ∧ Frm w wr) (fun i => es.length - i) 0 ⟨rfl, rfl, rfl, rfl, trivial⟩ ⟨by omega, by simp, hf1⟩ ?_
  rintro i wr ρ ⟨hil, hne, hfr⟩
  refine sgo ?_
  (show WC _ _ _ _ _ _ _; first | refine WC_dec rfl (fun hc => ?_) (fun hc => ?_) | refine WC_cond rfl (fun hc => ?_) (fun hc => ?_))
  · have hlt : i < es.length := by omega
    have hSg := (hi.frm hfr).sg
    have hx : es[i]? = some es[i] := List.getElem?_eq_getElem hlt
    have hseg := fm_seg At.len es hx
    generalize es[i] = x at *
    have hps : ∃ q, p = some q := hSg.some (by omega)
    refine sgo ?_
    refine wlalloc fun b2 w2 hb2 ho2 hf2 => ?_
    refine wlstorea0 (hv := by exact ⟨by rw [hseg]; rfl, rfl⟩) (h1 := by rw [hseg]; simp [At.cells, Value.oneCell']) ho2 fun w3 ho3 hl3 => ?_
    rw [hseg] at ho3
    have hfr3 := (hfr.trans hf2).step hl3 (by have := hfr.size; simp; omega)
    simp only [At.cells] at ho3
    clear hseg hSg ho2 ho
    refine sgo ?_
    (show WC _ _ _ _ _ _ _; first | refine WC_dec rfl (fun hc => ?_) (fun hc => ?_) | refine WC_cond rfl (fun hc => ?_) (fun hc => ?_))
    · refine sgo ?_
      (first | refine fp1 (.inl rfl) rfl rfl ?_ | refine fp2 (.inl rfl) rfl rfl rfl ?_ | refine fp3 (.inl rfl) rfl rfl rfl rfl ?_ | refine fp0 (.inr rfl) rfl ?_ | refine fp0 (.inl rfl) rfl ?_ | refine fp1 (.inr rfl) rfl rfl ?_); refine ⟨?_, by (first | exact Frm.refl _ | assumption | (refine Frm.trans ?_ (by assumption); first | exact Frm.refl _ | assumption))⟩; (try simp only [realB, rv_true, Nat.reduceBEq, cond_true, cond_false, entG, real_lif, updGL])
      rw [attrR_hit hx hc hne]; rfl
    · refine sgo ?_
      refine ⟨i + 1, ⟨rfl, rfl, rfl, rfl, trivial⟩, ⟨by omega, miss_succ hx hc hne, hfr3⟩, by omega⟩
  · refine sgo ?_
    (first | refine fp1 (.inl rfl) rfl rfl ?_ | refine fp2 (.inl rfl) rfl rfl rfl ?_ | refine fp3 (.inl rfl) rfl rfl rfl rfl ?_ | refine fp0 (.inr rfl) rfl ?_ | refine fp0 (.inl rfl) rfl ?_ | refine fp1 (.inr rfl) rfl rfl ?_); refine ⟨?_, by (first | exact Frm.refl _ | assumption | (refine Frm.trans ?_ (by assumption); first | exact Frm.refl _ | assumption))⟩; (try simp only [realB, rv_true, Nat.reduceBEq, cond_true, cond_false, entG, real_lif, updGL])
    rw [List.take_of_length_le (by omega)] at hne
    rw [attrR_miss hne]; rfl
end Go.Proofs.Ytfomfplddncakaa
