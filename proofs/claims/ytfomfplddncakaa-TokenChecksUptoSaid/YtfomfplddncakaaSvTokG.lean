/-
  Package sieveref07: Quote and Line; package token: List.
-/
import Derived.Test.YtfomfplddncakaaSvTokF
namespace Go.Proofs.Ytfomfplddncakaa
open Go Go.Sv Go.RowKit

theorem byte_eq (c : UInt8) (n : Nat) (hn : n < 256) : ((c.toNat : Int) = (n : Nat)) ↔ c = UInt8.ofNat n := by
  constructor
  · intro h
    have h1 : c.toNat = n := by omega
    apply UInt8.toNat.inj
    rw [UInt8.toNat_ofNat_of_lt' hn, h1]
  · intro h; subst h; rw [UInt8.toNat_ofNat_of_lt' hn]
theorem esc10 {c : UInt8} (h : (c.toNat : Int) = 10) : esc c = [92, 110] := by
  rw [(byte_eq c 10 (by decide)).1 h]; rfl
theorem esc9 {c : UInt8} (h : (c.toNat : Int) = 9) : esc c = [92, 116] := by
  rw [(byte_eq c 9 (by decide)).1 h]; rfl
theorem esc34 {c : UInt8} (h : (c.toNat : Int) = 34) : esc c = [92, 34] := by
  rw [(byte_eq c 34 (by decide)).1 h]; rfl
theorem esc92 {c : UInt8} (h : (c.toNat : Int) = 92) : esc c = [92, 92] := by
  rw [(byte_eq c 92 (by decide)).1 h]; rfl
theorem esc_other {c : UInt8} (h1 : ¬ (c.toNat : Int) = 10) (h2 : ¬ (c.toNat : Int) = 9) (h3 : ¬ (c.toNat : Int) = 34) (h4 : ¬ (c.toNat : Int) = 92) : esc c = [c] := by
  have e1 := mt (byte_eq c 10 (by decide)).2 h1
  have e2 := mt (byte_eq c 9 (by decide)).2 h2
  have e3 := mt (byte_eq c 34 (by decide)).2 h3
  have e4 := mt (byte_eq c 92 (by decide)).2 h4
  exact (if_neg e1).trans ((if_neg e2).trans ((if_neg e3).trans (if_neg e4)))

set_option maxHeartbeats 2000000 in
theorem refQuote_ok (l : List UInt8) (hb : l.length ≤ 1048576) (w : World) : PureC Try.prog 30 #[str l] w (str (quoteR l)) := by
  refine enter (l := [str l]) Try.func30 rfl Try.ntmps30 (by kernel_rfl) rfl ?_
  refine sgo ?_
  refine wcloop (X := Nat) (fun i => [(0, str l), (3, str (34 :: (l.take i).flatMap esc)), (4, int i)]) (fun i wr => i ≤ l.length ∧ Frm w wr) (fun i => l.length - i) 0 ⟨rfl, rfl, rfl, trivial⟩ ⟨by omega, Frm.refl _⟩ ?_
  rintro i wr ρ ⟨hi, hf⟩
  have h1 := escs_len (l.take i)
  have h2 : (l.take i).length ≤ 1048576 := by simp; omega
  have hlen : (34 :: (l.take i).flatMap esc).length ≤ 4000000 := by simp only [List.length_cons]; omega
  by_cases hlt : i < l.length
  · have hst : 34 :: (l.take (i + 1)).flatMap esc = (34 :: (l.take i).flatMap esc) ++ esc (l[i]?.getD 0) := by
      rw [List.take_add_one, List.flatMap_append, List.getElem?_eq_getElem hlt]; simp
    have hone : (l.drop i).take 1 = [l[i]?.getD 0] := by
      rw [List.drop_eq_getElem_cons hlt, List.getElem?_eq_getElem hlt]; rfl
    generalize 34 :: (l.take i).flatMap esc = S at *
    generalize hcc : l[i]?.getD 0 = c at *
    clear h1 h2
    refine sgo ?_
    (show WC _ _ _ _ _ _ _; first | refine WC_dec rfl (fun hc => ?_) (fun hc => ?_) | refine WC_cond rfl (fun hc => ?_) (fun hc => ?_))
    rotate_left
    · omega
    refine sgo ?_
    rw [hcc]
    (show WC _ _ _ _ _ _ _; first | refine WC_dec rfl (fun hc => ?_) (fun hc => ?_) | refine WC_cond rfl (fun hc => ?_) (fun hc => ?_))
    · have e := esc10 hc
      refine sgo ?_
      refine ⟨i + 1, ⟨rfl, ?_, rfl, trivial⟩, ⟨by omega, hf⟩, by omega⟩
      show str _ = str _
      rw [hst, e]
    · have n1 := hc; clear hc
      refine sgo ?_
      (show WC _ _ _ _ _ _ _; first | refine WC_dec rfl (fun hc => ?_) (fun hc => ?_) | refine WC_cond rfl (fun hc => ?_) (fun hc => ?_))
      · have e := esc9 hc
        refine sgo ?_
        refine ⟨i + 1, ⟨rfl, ?_, rfl, trivial⟩, ⟨by omega, hf⟩, by omega⟩
        show str _ = str _
        rw [hst, e]
      · have n2 := hc; clear hc
        refine sgo ?_
        (show WC _ _ _ _ _ _ _; first | refine WC_dec rfl (fun hc => ?_) (fun hc => ?_) | refine WC_cond rfl (fun hc => ?_) (fun hc => ?_))
        · have e := esc34 hc
          refine sgo ?_
          refine ⟨i + 1, ⟨rfl, ?_, rfl, trivial⟩, ⟨by omega, hf⟩, by omega⟩
          show str _ = str _
          rw [hst, e]
        · have n3 := hc; clear hc
          refine sgo ?_
          (show WC _ _ _ _ _ _ _; first | refine WC_dec rfl (fun hc => ?_) (fun hc => ?_) | refine WC_cond rfl (fun hc => ?_) (fun hc => ?_))
          · have e := esc92 hc
            refine sgo ?_
            refine ⟨i + 1, ⟨rfl, ?_, rfl, trivial⟩, ⟨by omega, hf⟩, by omega⟩
            show str _ = str _
            rw [hst, e]
          · have n4 := hc; clear hc
            have e := esc_other n1 n2 n3 n4
            refine sgo ?_
            refine ⟨i + 1, ⟨rfl, ?_, rfl, trivial⟩, ⟨by omega, hf⟩, by omega⟩
            show str (S ++ (l.drop i).take (i + 1 - i)) = str _
            rw [hst, e, show i + 1 - i = 1 by omega, hone]
  · have e : l.take i = l := List.take_of_length_le (by omega)
    rw [e] at hlen ⊢
    simp only [List.length_cons] at hlen
    refine sgo ?_
    (show WC _ _ _ _ _ _ _; first | refine WC_dec rfl (fun hc => ?_) (fun hc => ?_) | refine WC_cond rfl (fun hc => ?_) (fun hc => ?_))
    · omega
    refine sgo ?_
    (first | refine fp1 (.inl rfl) rfl rfl ?_ | refine fp2 (.inl rfl) rfl rfl rfl ?_ | refine fp3 (.inl rfl) rfl rfl rfl rfl ?_ | refine fp0 (.inr rfl) rfl ?_ | refine fp0 (.inl rfl) rfl ?_ | refine fp1 (.inr rfl) rfl rfl ?_); refine ⟨?_, by (first | exact Frm.refl _ | assumption | (refine Frm.trans ?_ (by assumption); first | exact Frm.refl _ | assumption))⟩; (try simp only [realB, rv_true, Nat.reduceBEq, cond_true, cond_false, entG, real_lif, updGL])
    rfl

theorem bare_line {t : Tok} (hb : bareR t = true) : t.attrs = [] ∧ t.self = false := by
  simp only [bareR, Bool.and_eq_true, decide_eq_true_eq, Bool.not_eq_true'] at hb
  exact ⟨List.eq_nil_of_length_eq_zero hb.2.1, hb.2.2⟩
set_option maxHeartbeats 4000000 in
theorem refLine_ok (t : Tok) (p : Option Addr) (c : Nat) (hm : mayR t = true) (hs : t.small) (w : World) (hi : Im [] w p (t.attrs.flatMap At.cells)) :
    PureC Try.prog 12 #[.agg ⟨t.cells p c⟩] w (str (lineR t)) := by
  obtain ⟨k, nm, tx, es, sf, a, b, d⟩ := t
  obtain ⟨h1, h2, h3, h4⟩ := hs
  dsimp only at h1 h2 h3 h4 hi
  have q1 := quoteR_len nm
  have q2 := quoteR_len tx
  have hln : lineR ⟨k, nm, tx, es, sf, a, b, d⟩ = headR ⟨k, nm, tx, es, sf, a, b, d⟩ ++ es.flatMap atLine ++ (if sf then [32, 47] else []) := rfl
  refine enter (l := [.agg ⟨Tok.cells ⟨k, nm, tx, es, sf, a, b, d⟩ p c⟩]) Try.func12 rfl Try.ntmps12 (by kernel_rfl) rfl ?_
  refine sgo ?_
  refine wlbox (v := .agg ⟨Tok.cells ⟨k, nm, tx, es, sf, a, b, d⟩ p c⟩) (hx := rfl) fun b1 w1 hb1 ho hf1 => ?_
  simp only [Tok.cells, Value.cells] at ho
  refine sgo ?_
  (show WC _ _ _ _ _ _ _; first | refine WC_dec rfl (fun hc => ?_) (fun hc => ?_) | refine WC_cond rfl (fun hc => ?_) (fun hc => ?_))
  · obtain rfl : k = 0 := hc
    have hbr : es = [] ∧ sf = false := bare_line (t := ⟨0, nm, tx, es, sf, a, b, d⟩) (by simp only [mayR, if_pos, Bool.and_eq_true] at hm; exact hm.1)
    refine sgo ?_
    refine wlpure (refQuote_ok tx h2 _) fun w2 hf2 => ?_
    have hf := hf1.trans hf2
    refine sgo ?_
    (first | refine fp1 (.inl rfl) rfl rfl ?_ | refine fp2 (.inl rfl) rfl rfl rfl ?_ | refine fp3 (.inl rfl) rfl rfl rfl rfl ?_ | refine fp0 (.inr rfl) rfl ?_ | refine fp0 (.inl rfl) rfl ?_ | refine fp1 (.inr rfl) rfl rfl ?_); refine ⟨?_, by (first | exact Frm.refl _ | assumption | (refine Frm.trans ?_ (by assumption); first | exact Frm.refl _ | assumption))⟩; (try simp only [realB, rv_true, Nat.reduceBEq, cond_true, cond_false, entG, real_lif, updGL])
    rw [hln, hbr.1, hbr.2]; simp [headR, wordR, wText]
  have k0 := hc; clear hc
  refine sgo ?_
  (show WC _ _ _ _ _ _ _; first | refine WC_dec rfl (fun hc => ?_) (fun hc => ?_) | refine WC_cond rfl (fun hc => ?_) (fun hc => ?_))
  · obtain rfl : k = 2 := hc
    have hbr : es = [] ∧ sf = false := by
      simp only [mayR, if_pos, if_neg (show ¬ (2:Int) = 0 by decide), if_neg (show ¬ (2:Int) = 1 by decide), Bool.and_eq_true, decide_eq_true_eq, Bool.not_eq_true'] at hm
      exact ⟨List.eq_nil_of_length_eq_zero hm.2.2.1, hm.2.2.2⟩
    refine sgo ?_
    refine wlpure (refQuote_ok nm h1 _) fun w2 hf2 => ?_
    have hf := hf1.trans hf2
    refine sgo ?_
    (first | refine fp1 (.inl rfl) rfl rfl ?_ | refine fp2 (.inl rfl) rfl rfl rfl ?_ | refine fp3 (.inl rfl) rfl rfl rfl rfl ?_ | refine fp0 (.inr rfl) rfl ?_ | refine fp0 (.inl rfl) rfl ?_ | refine fp1 (.inr rfl) rfl rfl ?_); refine ⟨?_, by (first | exact Frm.refl _ | assumption | (refine Frm.trans ?_ (by assumption); first | exact Frm.refl _ | assumption))⟩; (try simp only [realB, rv_true, Nat.reduceBEq, cond_true, cond_false, entG, real_lif, updGL])
    rw [hln, hbr.1, hbr.2]; simp [headR, wordR, wEnd]
  have k2 := hc; clear hc
  refine sgo ?_
  (show WC _ _ _ _ _ _ _; first | refine WC_dec rfl (fun hc => ?_) (fun hc => ?_) | refine WC_cond rfl (fun hc => ?_) (fun hc => ?_))
  · obtain rfl : k = 3 := hc
    have hbr : es = [] ∧ sf = false := bare_line (t := ⟨3, nm, tx, es, sf, a, b, d⟩) (by simp only [mayR, if_pos, if_neg (show ¬ (3:Int) = 0 by decide), if_neg (show ¬ (3:Int) = 1 by decide), if_neg (show ¬ (3:Int) = 2 by decide), Bool.and_eq_true] at hm; exact hm.1)
    refine sgo ?_
    refine wlpure (refQuote_ok tx h2 _) fun w2 hf2 => ?_
    have hf := hf1.trans hf2
    refine sgo ?_
    (first | refine fp1 (.inl rfl) rfl rfl ?_ | refine fp2 (.inl rfl) rfl rfl rfl ?_ | refine fp3 (.inl rfl) rfl rfl rfl rfl ?_ | refine fp0 (.inr rfl) rfl ?_ | refine fp0 (.inl rfl) rfl ?_ | refine fp1 (.inr rfl) rfl rfl ?_); refine ⟨?_, by (first | exact Frm.refl _ | assumption | (refine Frm.trans ?_ (by assumption); first | exact Frm.refl _ | assumption))⟩; (try simp only [realB, rv_true, Nat.reduceBEq, cond_true, cond_false, entG, real_lif, updGL])
    rw [hln, hbr.1, hbr.2]; simp [headR, wordR, wComment]
  have k3 := hc; clear hc
  refine sgo ?_
  (show WC _ _ _ _ _ _ _; first | refine WC_dec rfl (fun hc => ?_) (fun hc => ?_) | refine WC_cond rfl (fun hc => ?_) (fun hc => ?_))
  · obtain rfl : k = 4 := hc
    have hbr : es = [] ∧ sf = false := bare_line (t := ⟨4, nm, tx, es, sf, a, b, d⟩) (by simp only [mayR, if_pos, if_neg (show ¬ (4:Int) = 0 by decide), if_neg (show ¬ (4:Int) = 1 by decide), if_neg (show ¬ (4:Int) = 2 by decide), if_neg (show ¬ (4:Int) = 3 by decide), Bool.and_eq_true] at hm; exact hm.1)
    refine sgo ?_
    (first | refine fp1 (.inl rfl) rfl rfl ?_ | refine fp2 (.inl rfl) rfl rfl rfl ?_ | refine fp3 (.inl rfl) rfl rfl rfl rfl ?_ | refine fp0 (.inr rfl) rfl ?_ | refine fp0 (.inl rfl) rfl ?_ | refine fp1 (.inr rfl) rfl rfl ?_); refine ⟨?_, by (first | exact Frm.refl _ | assumption | (refine Frm.trans ?_ (by assumption); first | exact Frm.refl _ | assumption))⟩; (try simp only [realB, rv_true, Nat.reduceBEq, cond_true, cond_false, entG, real_lif, updGL])
    rw [hln, hbr.1, hbr.2]; simp [headR, wordR, wDoctype]
  have k4 := hc; clear hc
  obtain rfl : k = 1 := by
    have := (may_facts _ hm).kind
    dsimp only at this
    have n0 : ¬ k = 0 := k0
    have n2 : ¬ k = 2 := k2
    have n3 : ¬ k = 3 := k3
    have n4 : ¬ k = 4 := k4
    omega
  have hd : headR ⟨1, nm, tx, es, sf, a, b, d⟩ = [115, 116, 97, 114, 116, 32] ++ quoteR nm := by simp [headR, wordR, wStart]
  rw [hd] at hln
  clear hd k0 k2 k3 k4
  refine sgo ?_
  refine wlpure (refQuote_ok nm h1 _) fun w2 hf2 => ?_
  have hf := hf1.trans hf2
  have ho2 := ho.frm hf2
  clear ho
  refine sgo ?_
  have hfl := fm_len At.len es
  generalize hhd : [115, 116, 97, 114, 116, 32] ++ quoteR nm = hd at *
  have hhl : hd.length ≤ 3000000 := by rw [← hhd]; simp; omega
  clear hhd
  refine wcloop (X := Nat × List UInt8) (fun x => [(1, ptrAt (pb b1) 0), (3, str x.2), (33, .slice p es.length c), (34, int es.length), (35, int x.1)])
    (fun x wr => x.1 ≤ es.length ∧ x.2 = hd ++ (es.take x.1).flatMap atLine ∧ x.2.length ≤ 3000000 + x.1 * 5000000 ∧ Frm w wr ∧ Own wr b1 [int 1, str nm, str tx, Value.slice p es.length c, Value.bool sf, int a, int b, int d])
    (fun x => es.length - x.1) (0, hd) ⟨rfl, rfl, rfl, rfl, rfl, trivial⟩ ⟨by omega, by simp, by simpa using hhl, hf, ho2⟩ ?_
  clear ho2
  rintro ⟨i, acc⟩ wr ρ ⟨hil, hacc, hal, hfr, hor⟩
  dsimp only at hil hacc hal ⊢
  refine sgo ?_
  (show WC _ _ _ _ _ _ _; first | refine WC_dec rfl (fun hc => ?_) (fun hc => ?_) | refine WC_cond rfl (fun hc => ?_) (fun hc => ?_))
  · have hlt : i < es.length := by omega
    have hSg := (hi.frm hfr).sg
    have hx : es[i]? = some es[i] := List.getElem?_eq_getElem hlt
    have hseg := fm_seg At.len es hx
    have htk : (es.take (i + 1)).flatMap atLine = (es.take i).flatMap atLine ++ atLine es[i] := by rw [List.take_add_one, hx, List.flatMap_append]; simp
    have hsm := h4 es[i] (List.getElem_mem hlt)
    generalize es[i] = x at *
    have hxl := atLine_len x hsm
    have hps : ∃ q, p = some q := hSg.some (by have := fm_len At.len es; omega)
    refine sgo ?_
    refine wlalloc fun b2 w6 hb2 ho2 hf6 => ?_
    refine wlstorea0 (hv := by exact ⟨by rw [hseg]; rfl, rfl⟩) (h1 := by rw [hseg]; simp [At.cells, Value.oneCell']) ho2 fun w7 ho7 hl7 => ?_
    rw [hseg] at ho7
    have hb2w : w.heap.size ≤ b2 := Nat.le_trans hfr.size hb2
    have hfr7 := (hfr.trans hf6).step hl7 (by simpa using hb2w)
    have hne : b1 ≠ b2 := by have := hor.lt; omega
    have hor7 := (hor.frm hf6).le hl7 (by simpa using hne)
    simp only [At.cells] at ho7
    clear hseg hSg ho2 hor
    have hqn := quoteR_len x.n
    have hqv := quoteR_len x.v
    have hs1 := hsm.1
    have hs2 := hsm.2
    refine sgo ?_
    (first | refine WC_seq ?_ | skip); refine wcdraw ?_
    refine qgo ?_
    refine qlcallp (fun w _ => refQuote_ok x.n hsm.1 w) ?_
    refine qgo ?_
    refine qlcallp (fun w _ => refQuote_ok x.v hsm.2 w) ?_
    refine qgo ?_
    refine QL_nil ?_; intro wd hwd
    have hfr8 := hfr7.trans hwd
    have hor8 := hor7.frm hwd
    refine sgo ?_
    refine ⟨(i + 1, acc ++ atLine x), ⟨rfl, ?_, rfl, rfl, rfl, trivial⟩, ⟨by dsimp only; omega, ?_, ?_, hfr8, hor8⟩, by dsimp only; omega⟩
    · show str _ = str _
      refine congrArg (fun l => str l) ?_
      simp [atLine]
    · dsimp only
      rw [hacc, htk, List.append_assoc]
    · dsimp only
      rw [List.length_append]; omega
  · have htk : es.take i = es := List.take_of_length_le (by omega)
    rw [htk] at hacc
    refine sgo ?_
    (show WC _ _ _ _ _ _ _; first | refine WC_dec rfl (fun hc => ?_) (fun hc => ?_) | refine WC_cond rfl (fun hc => ?_) (fun hc => ?_))
    · refine sgo ?_
      (first | refine fp1 (.inl rfl) rfl rfl ?_ | refine fp2 (.inl rfl) rfl rfl rfl ?_ | refine fp3 (.inl rfl) rfl rfl rfl rfl ?_ | refine fp0 (.inr rfl) rfl ?_ | refine fp0 (.inl rfl) rfl ?_ | refine fp1 (.inr rfl) rfl rfl ?_); refine ⟨?_, by (first | exact Frm.refl _ | assumption | (refine Frm.trans ?_ (by assumption); first | exact Frm.refl _ | assumption))⟩; (try simp only [realB, rv_true, Nat.reduceBEq, cond_true, cond_false, entG, real_lif, updGL])
      rw [hln, ← hacc, hc]; rfl
    · refine sgo ?_
      (first | refine fp1 (.inl rfl) rfl rfl ?_ | refine fp2 (.inl rfl) rfl rfl rfl ?_ | refine fp3 (.inl rfl) rfl rfl rfl rfl ?_ | refine fp0 (.inr rfl) rfl ?_ | refine fp0 (.inl rfl) rfl ?_ | refine fp1 (.inr rfl) rfl rfl ?_); refine ⟨?_, by (first | exact Frm.refl _ | assumption | (refine Frm.trans ?_ (by assumption); first | exact Frm.refl _ | assumption))⟩; (try simp only [realB, rv_true, Nat.reduceBEq, cond_true, cond_false, entG, real_lif, updGL])
      rw [hln, ← hacc, hc]; simp
end Go.Proofs.Ytfomfplddncakaa
