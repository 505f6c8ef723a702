/-
  Package token: Print.
-/
import Derived.Test.YtfomfplddncakaaSvTokE
namespace Go.Proofs.Ytfomfplddncakaa
open Go Go.Sv Go.RowKit

def atLine (x : At) : List UInt8 := 32 :: quoteR x.n ++ [61] ++ quoteR x.v
/-- the line of a token that may be -/
def headR (t : Tok) : List UInt8 :=
  wordR t.kind ++ (if t.kind = 1 ∨ t.kind = 2 then 32 :: quoteR t.name else if t.kind = 0 ∨ t.kind = 3 then 32 :: quoteR t.text else [])
def lineR (t : Tok) : List UInt8 := headR t ++ t.attrs.flatMap atLine ++ (if t.self then [32, 47] else [])

theorem nameR_valid {attr : Bool} {l : List UInt8} (h : nameR attr l = true) : validR l = true := by
  unfold nameR at h
  simp only [Bool.and_eq_true] at h
  exact h.1.1.1
theorem attrsF_all : ∀ (es : List At) (seen : List (List UInt8)), attrsF seen es = true → ∀ x ∈ es, validR x.n = true ∧ validR x.v = true
  | [], _, _ => by simp
  | a :: es, seen, h => by
    simp only [attrsF, Bool.and_eq_true, atOk] at h
    intro x hx
    rcases List.mem_cons.1 hx with rfl | hx
    · exact ⟨nameR_valid h.1.1.1, h.1.1.2⟩
    · exact attrsF_all es _ h.2 x hx
structure MayF (t : Tok) : Prop where
  kind : 0 ≤ t.kind ∧ t.kind ≤ 4
  name : t.kind = 1 ∨ t.kind = 2 → validR t.name = true
  text : t.kind = 0 ∨ t.kind = 3 → validR t.text = true
  attrs : ∀ x ∈ t.attrs, validR x.n = true ∧ validR x.v = true
theorem may_facts (t : Tok) (h : mayR t = true) : MayF t := by
  unfold mayR at h
  have hnil : t.attrs.length = 0 → ∀ x ∈ t.attrs, validR x.n = true ∧ validR x.v = true := fun h0 x hx => by
    rw [List.eq_nil_of_length_eq_zero h0] at hx; cases hx
  split at h
  · rename_i hk
    simp only [bareR, Bool.and_eq_true, decide_eq_true_eq] at h
    exact ⟨by omega, by omega, fun _ => h.2.2, hnil h.1.2.1⟩
  split at h
  · rename_i hk
    simp only [Bool.and_eq_true, decide_eq_true_eq] at h
    exact ⟨by omega, fun _ => nameR_valid h.1, by omega, attrsF_all _ _ h.2.2⟩
  split at h
  · rename_i hk
    simp only [Bool.and_eq_true, decide_eq_true_eq] at h
    exact ⟨by omega, fun _ => nameR_valid h.1, by omega, hnil h.2.2.1⟩
  split at h
  · rename_i hk
    simp only [bareR, Bool.and_eq_true, decide_eq_true_eq] at h
    exact ⟨by omega, by omega, fun _ => h.2, hnil h.1.2.1⟩
  split at h
  · rename_i hk
    simp only [bareR, Bool.and_eq_true, decide_eq_true_eq] at h
    exact ⟨by omega, by omega, by omega, hnil h.1.2.1⟩
  · cases h

theorem quoteR_len (l : List UInt8) : (quoteR l).length ≤ 2 * l.length + 2 := by
  have := escs_len l
  simp only [quoteR, List.length_cons, List.length_append, List.length_nil]; omega
theorem wordR_len (k : Int) : (wordR k).length ≤ 7 := by
  unfold wordR
  repeat' split
  all_goals decide

theorem words_at (k : Nat) (h : (k : Int) ≤ 4) : (#[str wText, str wStart, str wEnd, str wComment, str wDoctype] : Array Value)[k]? = some (str (wordR k)) := by
  have : k = 0 ∨ k = 1 ∨ k = 2 ∨ k = 3 ∨ k = 4 := by omega
  rcases this with rfl | rfl | rfl | rfl | rfl <;> rfl
theorem atLine_len (x : At) (h : x.small) : (atLine x).length ≤ 5000000 := by
  have := quoteR_len x.n
  have := quoteR_len x.v
  have h1 := h.1
  have h2 := h.2
  simp only [atLine, List.length_cons, List.length_append, List.length_nil]; omega

set_option maxHeartbeats 8000000 in
theorem print_ok (t : Tok) (p : Option Addr) (c : Nat) (hs : t.small) (w : World) (hi : Im [] w p (t.attrs.flatMap At.cells)) :
    PureC Try.prog 10 #[.agg ⟨t.cells p c⟩] w (if mayR t then .tuple #[str (lineR t), int 0] else .tuple #[str [], int 70]) := by
  obtain ⟨k, nm, tx, es, sf, a, b, d⟩ := t
  have hmf := may_facts ⟨k, nm, tx, es, sf, a, b, d⟩
  have hck := fun w hi => check_ok ⟨k, nm, tx, es, sf, a, b, d⟩ p c hs w hi
  obtain ⟨h1, h2, h3, h4⟩ := hs
  dsimp only at h1 h2 h3 h4 hi hck
  generalize hln : lineR ⟨k, nm, tx, es, sf, a, b, d⟩ = ln
  generalize hhd : headR ⟨k, nm, tx, es, sf, a, b, d⟩ = hd
  have hfl := fm_len At.len es
  have hln' : ln = hd ++ es.flatMap atLine ++ (if sf then [32, 47] else []) := by rw [← hln, ← hhd]; rfl
  have hhd' : hd = wordR k ++ (if k = 1 ∨ k = 2 then 32 :: quoteR nm else if k = 0 ∨ k = 3 then 32 :: quoteR tx else []) := by rw [← hhd]; rfl
  clear hln hhd
  refine enter (l := [.agg ⟨Tok.cells ⟨k, nm, tx, es, sf, a, b, d⟩ p c⟩]) Try.func10 rfl Try.ntmps10 (by kernel_rfl) rfl ?_
  refine sgo ?_
  refine wlbox (v := .agg ⟨Tok.cells ⟨k, nm, tx, es, sf, a, b, d⟩ p c⟩) (hx := rfl) fun b1 w1 hb1 ho hf1 => ?_
  have hpc := hck w1 (hi.frm hf1)
  simp only [Tok.cells, Value.cells] at ho hpc
  clear hck
  refine sgo ?_
  refine wlpure hpc fun w2 hf2 => ?_
  replace ho := ho.frm hf2
  have hf := hf1.trans hf2
  clear hpc
  cases hm : mayR ⟨k, nm, tx, es, sf, a, b, d⟩
  · refine sgo ?_
    (first | refine fp1 (.inl rfl) rfl rfl ?_ | refine fp2 (.inl rfl) rfl rfl rfl ?_ | refine fp3 (.inl rfl) rfl rfl rfl rfl ?_ | refine fp0 (.inr rfl) rfl ?_ | refine fp0 (.inl rfl) rfl ?_ | refine fp1 (.inr rfl) rfl rfl ?_); refine ⟨?_, by (first | exact Frm.refl _ | assumption | (refine Frm.trans ?_ (by assumption); first | exact Frm.refl _ | assumption))⟩; (try simp only [realB, rv_true, Nat.reduceBEq, cond_true, cond_false, entG, real_lif, updGL])
    rfl
  · obtain ⟨hk, hvn, hvt, hva⟩ := hmf hm
    dsimp only at hk hvn hvt hva
    refine sgo ?_
    · clear hmf hm
      obtain ⟨kn, rfl⟩ := Int.eq_ofNat_of_zero_le hk.1
      have hk4 := hk.2
      have hwl := wordR_len kn
      refine sgo ?_
      (first | refine WC_seq ?_ | skip); refine wcdraw ?_
      refine qlcallp (fun w _ => words_ok w) ?_
      refine qgo ?_
      refine ql ?_ (YQ.ofY fun wq hwq => y_aidx rfl rfl (by omega) (words_at kn hk4))
      refine qgo ?_
      refine QL_nil ?_; intro wd hwd
      have hod := ho.frm hwd
      have hfd := hf.trans hwd
      clear ho
      refine Go.Sv.thn_normal ?_
      refine wcut (X := Unit) (fun _ => [(1, ptrAt (pb b1) 0), (5, str hd)]) (fun _ w' => Frm w w' ∧ Own w' b1 [int kn, str nm, str tx, Value.slice p es.length c, Value.bool sf, int a, int b, int d]) ?_ ?_
      · refine sgo ?_
        (show WC _ _ _ _ _ _ _; first | refine WC_dec rfl (fun hc => ?_) (fun hc => ?_) | refine WC_cond rfl (fun hc => ?_) (fun hc => ?_))
        · have hk1 : (kn : Int) = 1 := hc
          clear hc
          refine sgo ?_
          (show WC _ _ _ _ _ _ _; first | refine WC_dec rfl (fun hc => ?_) (fun hc => ?_) | refine WC_cond rfl (fun hc => ?_) (fun hc => ?_))
          · refine sgo ?_
            refine wlpure (quoted_ok nm (hvn (.inl hk1)) h1 _) fun w4 hf4 => ?_
            have hql := quoteR_len nm
            refine sgo ?_
            refine ⟨(), ⟨rfl, ?_, trivial⟩, hfd.trans hf4, hod.frm hf4⟩
            show str _ = str _
            refine congrArg (fun l => str l) ?_
            rw [hhd', if_pos (.inl hk1)]; rfl
          · omega
        · have hk1 : ¬ (kn : Int) = 1 := hc
          clear hc
          refine sgo ?_
          (show WC _ _ _ _ _ _ _; first | refine WC_dec rfl (fun hc => ?_) (fun hc => ?_) | refine WC_cond rfl (fun hc => ?_) (fun hc => ?_))
          · refine sgo ?_
            refine wlpure (quoted_ok nm (hvn (.inr hc)) h1 _) fun w4 hf4 => ?_
            have hql := quoteR_len nm
            refine sgo ?_
            refine ⟨(), ⟨rfl, ?_, trivial⟩, hfd.trans hf4, hod.frm hf4⟩
            show str _ = str _
            refine congrArg (fun l => str l) ?_
            rw [hhd', if_pos (.inr hc)]; rfl
          · have hk2 : ¬ (kn : Int) = 2 := hc
            clear hc
            refine sgo ?_
            (show WC _ _ _ _ _ _ _; first | refine WC_dec rfl (fun hc => ?_) (fun hc => ?_) | refine WC_cond rfl (fun hc => ?_) (fun hc => ?_))
            · have hk0 : (kn : Int) = 0 := hc
              clear hc
              refine sgo ?_
              (show WC _ _ _ _ _ _ _; first | refine WC_dec rfl (fun hc => ?_) (fun hc => ?_) | refine WC_cond rfl (fun hc => ?_) (fun hc => ?_))
              · refine sgo ?_
                refine wlpure (quoted_ok tx (hvt (.inl hk0)) h2 _) fun w4 hf4 => ?_
                have hql := quoteR_len tx
                refine sgo ?_
                refine ⟨(), ⟨rfl, ?_, trivial⟩, hfd.trans hf4, hod.frm hf4⟩
                show str _ = str _
                refine congrArg (fun l => str l) ?_
                rw [hhd', if_neg (by omega), if_pos (.inl hk0)]; rfl
              · omega
            · have hk0 : ¬ (kn : Int) = 0 := hc
              clear hc
              refine sgo ?_
              (show WC _ _ _ _ _ _ _; first | refine WC_dec rfl (fun hc => ?_) (fun hc => ?_) | refine WC_cond rfl (fun hc => ?_) (fun hc => ?_))
              · refine sgo ?_
                refine wlpure (quoted_ok tx (hvt (.inr hc)) h2 _) fun w4 hf4 => ?_
                have hql := quoteR_len tx
                refine sgo ?_
                refine ⟨(), ⟨rfl, ?_, trivial⟩, hfd.trans hf4, hod.frm hf4⟩
                show str _ = str _
                refine congrArg (fun l => str l) ?_
                rw [hhd', if_neg (by omega), if_pos (.inr hc)]; rfl
              · have hk3 : ¬ (kn : Int) = 3 := hc
                clear hc
                refine sgo ?_
                refine ⟨(), ⟨rfl, ?_, trivial⟩, hfd, hod⟩
                show str _ = str _
                refine congrArg (fun l => str l) ?_
                rw [hhd', if_neg (by omega), if_neg (by omega), List.append_nil]
      clear hod hfd
      rintro ⟨⟩ w5 ρ5 ⟨hf5, ho5⟩
      have hhl : hd.length ≤ 3000000 := by
        have h5 := quoteR_len nm
        have h6 := quoteR_len tx
        rw [hhd', List.length_append]
        split
        · simp only [List.length_cons]; omega
        · split
          · simp only [List.length_cons]; omega
          · simp only [List.length_nil]; omega
      clear hhd' hvn hvt
      refine sgo ?_
      refine wcloop (X := Nat × List UInt8) (fun x => [(1, ptrAt (pb b1) 0), (5, str x.2), (38, .slice p es.length c), (39, int es.length), (40, int x.1)])
        (fun x wr => x.1 ≤ es.length ∧ x.2 = hd ++ (es.take x.1).flatMap atLine ∧ x.2.length ≤ 3000000 + x.1 * 5000000 ∧ Frm w wr ∧ Own wr b1 [int kn, str nm, str tx, Value.slice p es.length c, Value.bool sf, int a, int b, int d])
        (fun x => es.length - x.1) (0, hd) ⟨rfl, rfl, rfl, rfl, rfl, trivial⟩ ⟨by omega, by simp, by simpa using hhl, hf5, ho5⟩ ?_
      clear ho5
      rintro ⟨i, acc⟩ wr ρ ⟨hil, hacc, hal, hfr, hor⟩
      dsimp only at hil hacc hal ⊢
      refine sgo ?_
      (show WC _ _ _ _ _ _ _; first | refine WC_dec rfl (fun hc => ?_) (fun hc => ?_) | refine WC_cond rfl (fun hc => ?_) (fun hc => ?_))
      · have hlt : i < es.length := by omega
        have hSg := (hi.frm hfr).sg
        have hx : es[i]? = some es[i] := List.getElem?_eq_getElem hlt
        have hseg := fm_seg At.len es hx
        have htk : (es.take (i + 1)).flatMap atLine = (es.take i).flatMap atLine ++ atLine es[i] := by rw [List.take_add_one, hx, List.flatMap_append]; simp
        have hsm := h4 es[i] (List.getElem_mem hlt)
        have hva1 := hva es[i] (List.getElem_mem hlt)
        generalize es[i] = x at *
        have hxl := atLine_len x hsm
        have hps : ∃ q, p = some q := hSg.some (by omega)
        refine sgo ?_
        refine wlalloc fun b2 w6 hb2 ho2 hf6 => ?_
        refine wlstorea0 (hv := by exact ⟨by rw [hseg]; rfl, rfl⟩) (h1 := by rw [hseg]; simp [At.cells, Value.oneCell']) ho2 fun w7 ho7 hl7 => ?_
        rw [hseg] at ho7
        have hb2w : w.heap.size ≤ b2 := Nat.le_trans hfr.size hb2
        have hfr7 := (hfr.trans hf6).step hl7 (by simpa using hb2w)
        have hne : b1 ≠ b2 := by have := hor.lt; omega
        have hor7 := (hor.frm hf6).le hl7 (by simpa using hne)
        simp only [At.cells] at ho7
        clear hseg hSg ho2 hor
        have hqn := quoteR_len x.n
        have hqv := quoteR_len x.v
        have hs1 := hsm.1
        have hs2 := hsm.2
        refine sgo ?_
        (first | refine WC_seq ?_ | skip); refine wcdraw ?_
        refine qgo ?_
        refine qlcallp (fun w _ => quoted_ok x.n hva1.1 hsm.1 w) ?_
        refine qgo ?_
        refine qlcallp (fun w _ => quoted_ok x.v hva1.2 hsm.2 w) ?_
        refine qgo ?_
        refine QL_nil ?_; intro wd hwd
        have hfr8 := hfr7.trans hwd
        have hor8 := hor7.frm hwd
        refine sgo ?_
        refine ⟨(i + 1, acc ++ atLine x), ⟨rfl, ?_, rfl, rfl, rfl, trivial⟩, ⟨by dsimp only; omega, ?_, ?_, hfr8, hor8⟩, by dsimp only; omega⟩
        · show str _ = str _
          refine congrArg (fun l => str l) ?_
          simp [atLine]
        · dsimp only
          rw [hacc, htk, List.append_assoc]
        · dsimp only
          rw [List.length_append]; omega
      · have htk : es.take i = es := List.take_of_length_le (by omega)
        rw [htk] at hacc
        refine sgo ?_
        (show WC _ _ _ _ _ _ _; first | refine WC_dec rfl (fun hc => ?_) (fun hc => ?_) | refine WC_cond rfl (fun hc => ?_) (fun hc => ?_))
        · refine sgo ?_
          (first | refine fp1 (.inl rfl) rfl rfl ?_ | refine fp2 (.inl rfl) rfl rfl rfl ?_ | refine fp3 (.inl rfl) rfl rfl rfl rfl ?_ | refine fp0 (.inr rfl) rfl ?_ | refine fp0 (.inl rfl) rfl ?_ | refine fp1 (.inr rfl) rfl rfl ?_); refine ⟨?_, by (first | exact Frm.refl _ | assumption | (refine Frm.trans ?_ (by assumption); first | exact Frm.refl _ | assumption))⟩; (try simp only [realB, rv_true, Nat.reduceBEq, cond_true, cond_false, entG, real_lif, updGL])
          rw [hln', ← hacc, hc]; rfl
        · refine sgo ?_
          (first | refine fp1 (.inl rfl) rfl rfl ?_ | refine fp2 (.inl rfl) rfl rfl rfl ?_ | refine fp3 (.inl rfl) rfl rfl rfl rfl ?_ | refine fp0 (.inr rfl) rfl ?_ | refine fp0 (.inl rfl) rfl ?_ | refine fp1 (.inr rfl) rfl rfl ?_); refine ⟨?_, by (first | exact Frm.refl _ | assumption | (refine Frm.trans ?_ (by assumption); first | exact Frm.refl _ | assumption))⟩; (try simp only [realB, rv_true, Nat.reduceBEq, cond_true, cond_false, entG, real_lif, updGL])
          rw [hln', ← hacc, hc]; simp
end Go.Proofs.Ytfomfplddncakaa
