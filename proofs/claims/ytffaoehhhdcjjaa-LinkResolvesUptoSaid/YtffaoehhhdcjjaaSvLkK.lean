/-
  Package link: Resolve.
-/
import Derived.Test.YtffaoehhhdcjjaaSvLkJ
import Derived.Test.YtffaoehhhdcjjaaSvVal
set_option linter.unusedSimpArgs false
set_option linter.unusedVariables false
set_option linter.unnecessarySimpa false
namespace Go.Proofs.Ytffaoehhhdcjjaa
open Go Go.Sv Go.RowKit

theorem lastF_at (l : List UInt8) (c : Nat) : ∀ n, 0 ≤ lastF l c n → at0 l (lastF l c n).toNat = c
  | 0, h => by simp [lastF] at h
  | n + 1, h => by
    simp only [lastF] at h ⊢
    by_cases e : at0 l n = c
    · rw [if_pos e]; simpa using e
    · rw [if_neg e] at h ⊢
      exact lastF_at l c n h
def lastN (l : List UInt8) : Nat := (lastR l 47 + 1).toNat
theorem lastN_le (l : List UInt8) : lastN l ≤ l.length := by
  have := lastF_rng l 47 l.length
  unfold lastN lastR
  omega
theorem lastN_at (l : List UInt8) : lastN l = 0 ∨ at0 l (lastN l - 1) < 128 := by
  have h1 := lastF_rng l 47 l.length
  have h2 := lastF_at l 47 l.length
  unfold lastN lastR
  rcases Int.lt_or_le (lastF l 47 l.length) 0 with h | h
  · left; omega
  · right
    rw [show (lastF l 47 l.length + 1).toNat - 1 = (lastF l 47 l.length).toNat from by omega, h2 h]
    decide
def merR (b : Lnk) (p : List UInt8) : List UInt8 := if (b.hh && decide (b.pa = [])) = true then 47 :: p else b.pa.take (lastN b.pa) ++ p
theorem merR_valid {b : Lnk} {p : List UInt8} (hb : validR b.pa = true) (hp : validR p = true) : validR (merR b p) = true := by
  unfold merR
  split
  · exact valid_app (a := [47]) (valid_one 47 (by decide)) hp
  · exact valid_app (valid_cut hb _ (lastN_le _) (lastN_at _)).1 hp
theorem merR_len (b : Lnk) (p : List UInt8) : (merR b p).length ≤ b.pa.length + p.length + 1 := by
  unfold merR
  split
  · simp
  · simp only [List.length_append, List.length_take]; omega
def resR (b r : Lnk) : Lnk :=
  if r.hs = true then ⟨r.sc, r.ho, dotsL r.pa [], r.qu, r.fr, true, r.hh, r.hq, r.hf⟩
  else if r.hh = true then ⟨b.sc, r.ho, dotsL r.pa [], r.qu, r.fr, b.hs, true, r.hq, r.hf⟩
  else if r.pa = [] then ⟨b.sc, b.ho, b.pa, if r.hq then r.qu else b.qu, r.fr, b.hs, b.hh, if r.hq then true else b.hq, r.hf⟩
  else if at0 r.pa 0 = 47 then ⟨b.sc, b.ho, dotsL r.pa [], r.qu, r.fr, b.hs, b.hh, r.hq, r.hf⟩
  else ⟨b.sc, b.ho, dotsL (merR b r.pa) [], r.qu, r.fr, b.hs, b.hh, r.hq, r.hf⟩

theorem dots_v (l : List UInt8) (hv : validR l = true) (hb : l.length ≤ 1073741824) (w : World) : PureC Try.prog 14 #[str l] w (str (dotsL l [])) := by
  have := dots_ok l hb w
  rwa [mendR_id hv] at this
set_option maxHeartbeats 1000000 in
theorem merged_ok (b : Lnk) (p : List UInt8) (h1 : b.pa.length ≤ 134217728) (h2 : p.length ≤ 134217728) (w : World) : PureC Try.prog 40 #[b.v, str p] w (str (merR b p)) := by
  refine enter (l := [b.v, str p]) Try.func40 rfl Try.ntmps40 (by kernel_rfl) rfl ?_
  refine sgo ?_
  refine wlbox (hx := rfl) fun b1 w1 hb1 o1 hf1 => ?_
  replace o1 : Own w1 b1 b.cells := o1
  refine sgo ?_
  (show WC _ _ _ _ _ _ _; first | refine WC_dec rfl (fun hc => ?_) (fun hc => ?_) | refine WC_cond rfl (fun hc => ?_) (fun hc => ?_))
  · rw [pkb_and] at hc
    have e : merR b p = 47 :: p := if_pos hc
    refine sgo ?_
    (first | refine fp1 (.inl rfl) rfl rfl ?_ | refine fp2 (.inl rfl) rfl rfl rfl ?_ | refine fp3 (.inl rfl) rfl rfl rfl rfl ?_ | refine fp0 (.inr rfl) rfl ?_ | refine fp0 (.inl rfl) rfl ?_ | refine fp1 (.inr rfl) rfl rfl ?_); refine ⟨?_, by (first | exact Frm.refl _ | assumption | (refine Frm.trans ?_ (by assumption); first | exact Frm.refl _ | assumption))⟩; (try simp only [realB, rv_true, Nat.reduceBEq, cond_true, cond_false, entG, real_lif, updGL])
    rw [e]
    rfl
  · rw [pkb_and] at hc
    have e : merR b p = b.pa.take (lastN b.pa) ++ p := if_neg (by rw [hc]; decide)
    have hr := lastF_rng b.pa 47 b.pa.length
    refine sgo ?_
    refine wcdraw ?_
    refine qgo ?_
    refine qlcallp (fun w _ => last_ok b.pa 47 (by omega) w) ?_
    have hle := lastN_le b.pa
    unfold lastN at e hle
    unfold lastR at e hle ⊢
    generalize lastF b.pa 47 b.pa.length = m at *
    refine qgo ?_
    refine QL_nil ?_
    intro wd hwd
    have hf := hf1.trans hwd
    refine sgo ?_
    (first | refine fp1 (.inl rfl) rfl rfl ?_ | refine fp2 (.inl rfl) rfl rfl rfl ?_ | refine fp3 (.inl rfl) rfl rfl rfl rfl ?_ | refine fp0 (.inr rfl) rfl ?_ | refine fp0 (.inl rfl) rfl ?_ | refine fp1 (.inr rfl) rfl rfl ?_); refine ⟨?_, by (first | exact Frm.refl _ | assumption | (refine Frm.trans ?_ (by assumption); first | exact Frm.refl _ | assumption))⟩; (try simp only [realB, rv_true, Nat.reduceBEq, cond_true, cond_false, entG, real_lif, updGL])
    rw [e]

set_option maxHeartbeats 1000000 in
theorem takeQ_ok (l t : Lnk) (b5 : Nat) (w : World) (o5 : Own w b5 t.cells) : CallsR Try.prog 39 #[l.v, ptrAt (pb b5) 0] w fun _ w' => Own w' b5 (l.upQ t true true).cells ∧ Le [b5] w w' := by
  refine enter (l := [l.v, ptrAt (pb b5) 0]) Try.func39 rfl Try.ntmps39 (by kernel_rfl) rfl ?_
  refine sgo ?_
  refine wlbox (hx := rfl) fun b2 w1 hb2 o2 hf1 => ?_
  replace o2 : Own w1 b2 l.cells := o2
  have hlt := o5.lt
  replace o5 := o5.frm hf1
  refine sgo ?_
  refine wcdraws (fun L w' => Le [b5] w1 w' ∧ Own w' b5 ((l.upQ t (L 5) (L 7)).cells)) (fun wd hwd => ⟨hwd.le, (o5).frm hwd⟩) ?_; (repeat (first | refine qs_fld ?_ | refine qsp ?_ | refine qs_slc ?_ | refine qs_bin ?_ | refine qs_idx ?_ | refine qs_len ?_ | refine qs_cnv ?_ | refine qs_idxa ?_ | refine qs_nilc ?_ | refine qs_una ?_)); refine qs_load (i := 3) (fun _ => (l).cells) (v := str l.qu) ?_ (fun L w h => ((o2).le h.1 (by simp; omega)).sg) (fun L hu => rfl); (repeat (first | refine qs_fld ?_ | refine qsp ?_ | refine qs_slc ?_ | refine qs_bin ?_ | refine qs_idx ?_ | refine qs_len ?_ | refine qs_cnv ?_ | refine qs_idxa ?_ | refine qs_nilc ?_ | refine qs_una ?_)); refine qs_load (i := 7) (fun _ => (l).cells) (v := .bool l.hq) ?_ (fun L w h => ((o2).le h.1 (by simp; omega)).sg) (fun L hu => rfl); (repeat (first | refine qs_fld ?_ | refine qsp ?_ | refine qs_slc ?_ | refine qs_bin ?_ | refine qs_idx ?_ | refine qs_len ?_ | refine qs_cnv ?_ | refine qs_idxa ?_ | refine qs_nilc ?_ | refine qs_una ?_)); refine qs_st (i := 3) (u := str l.qu) (fun L => (l.upQ t (L 5) (L 7)).cells) (fun L w h => h.2) (fun L w w' hu h ho hl => ⟨h.1.trans hl, by exact ho⟩) ?_; (repeat (first | refine qs_fld ?_ | refine qsp ?_ | refine qs_slc ?_ | refine qs_bin ?_ | refine qs_idx ?_ | refine qs_len ?_ | refine qs_cnv ?_ | refine qs_idxa ?_ | refine qs_nilc ?_ | refine qs_una ?_)); refine qs_st (i := 7) (u := .bool l.hq) (fun L => (l.upQ t (L 5) (L 7)).cells) (fun L w h => h.2) (fun L w w' hu h ho hl => ⟨h.1.trans hl, by exact ho⟩) ?_; (repeat (first | refine qs_fld ?_ | refine qsp ?_ | refine qs_slc ?_ | refine qs_bin ?_ | refine qs_idx ?_ | refine qs_len ?_ | refine qs_cnv ?_ | refine qs_idxa ?_ | refine qs_nilc ?_ | refine qs_una ?_)); refine qs_nil ?_; intro L w' hL hS; have e5 := hL 5 (by decide); have e7 := hL 7 (by decide); rw [e5, e7] at hS; clear hL e5 e7
  (first | refine fp1 (.inl rfl) rfl rfl ?_ | refine fp2 (.inl rfl) rfl rfl rfl ?_ | refine fp3 (.inl rfl) rfl rfl rfl rfl ?_ | refine fp0 (.inr rfl) rfl ?_ | refine fp0 (.inl rfl) rfl ?_ | refine fp1 (.inr rfl) rfl rfl ?_)
  exact ⟨hS.2, hf1.le.trans hS.1⟩

/-- what lies in memory while a reference is resolved -/
structure Rz (w0 : World) (b2 b3 b4 b5 : Nat) (b r t : Lnk) (w : World) : Prop where
  o2 : Own w b2 b.cells
  o3 : Own w b3 r.cells
  o4 : Own w b4 lz.cells
  o5 : Own w b5 t.cells
  fr : Frm w0 w
theorem Rz.frm {w0 w w' : World} {b2 b3 b4 b5 : Nat} {b r t : Lnk} (h : Rz w0 b2 b3 b4 b5 b r t w) (hf : Frm w w') : Rz w0 b2 b3 b4 b5 b r t w' :=
  ⟨h.o2.frm hf, h.o3.frm hf, h.o4.frm hf, h.o5.frm hf, h.fr.trans hf⟩
theorem Rz.step {w0 w w' : World} {b2 b3 b4 b5 : Nat} {b r t t' : Lnk} (h : Rz w0 b2 b3 b4 b5 b r t w) (hl : Le [b5] w w') (o : Own w' b5 t'.cells) (hd : w0.heap.size ≤ b2 ∧ b2 < b3 ∧ b3 < b4 ∧ b4 < b5) : Rz w0 b2 b3 b4 b5 b r t' w' :=
  ⟨h.o2.le hl (by simp; omega), h.o3.le hl (by simp; omega), h.o4.le hl (by simp; omega), o, h.fr.step hl (by intro x hx; simp at hx; omega)⟩
def midR (b r : Lnk) : Lnk :=
  if r.hs = true then ⟨r.sc, r.ho, dotsL r.pa [], r.qu, r.fr, r.hs, r.hh, r.hq, r.hf⟩
  else if r.hh = true then ⟨[], r.ho, dotsL r.pa [], r.qu, [], false, true, r.hq, false⟩
  else if r.pa = [] then ⟨[], b.ho, b.pa, if r.hq then r.qu else b.qu, [], false, b.hh, if r.hq then r.hq else b.hq, false⟩
  else if at0 r.pa 0 = 47 then ⟨[], b.ho, dotsL r.pa [], r.qu, [], false, b.hh, r.hq, false⟩
  else ⟨[], b.ho, dotsL (merR b r.pa) [], r.qu, [], false, b.hh, r.hq, false⟩
theorem resR_mid (b r : Lnk) : resR b r = r.upF (if r.hs = true then midR b r else b.upS (midR b r) true true) true true := by
  unfold resR midR
  cases h1 : r.hs
  · simp only [Bool.false_eq_true, if_false, cond_true]
    cases h2 : r.hh
    · simp only [Bool.false_eq_true, if_false]
      by_cases h3 : r.pa = []
      · simp only [h3, if_true]
        cases r.hq <;> rfl
      · simp only [h3, if_false]
        by_cases h4 : at0 r.pa 0 = 47
        · simp only [h4, if_true]; rfl
        · simp only [h4, if_false]; rfl
    · simp only [if_true]; rfl
  · simp only [if_true, cond_true]; rfl
abbrev Lnk.upX (r : Lnk) (d : List UInt8) (t : Lnk) (p q s : Bool) : Lnk := ⟨t.sc, bif p then r.ho else t.ho, bif s then d else t.pa, t.qu, t.fr, t.hs, bif q then true else t.hh, t.hq, t.hf⟩

set_option maxHeartbeats 4000000 in
theorem resolve_ok (b0 r0 : Lnk) (hb : b0.sm 16777216) (hr : r0.sm 16777216) (w : World) : PureC Try.prog 17 #[b0.v, r0.v] w (resR b0.mend r0.mend).v := by
  refine enter (l := [b0.v, r0.v]) Try.func17 rfl Try.ntmps17 (by kernel_rfl) rfl ?_
  refine sgo ?_
  refine wlbox (hx := rfl) fun b2 w1 hb2 o2 hf1 => ?_
  refine wlbox (hx := rfl) fun b3 w2 hb3 o3 hf2 => ?_
  refine wlalloc fun b4 w3 hb4 o4 hf3 => ?_
  replace o2 : Own w1 b2 b0.cells := o2
  replace o3 : Own w2 b3 r0.cells := o3
  have hl2 := o2.lt
  have hl3 := o3.lt
  have hl4 := o4.lt
  have hz := hf1.size
  replace o2 := (o2.frm hf2).frm hf3
  replace o3 := o3.frm hf3
  have hf := (hf1.trans hf2).trans hf3
  refine sgo ?_
  refine wcdraws (fun L w' => Le [b2, b3] w3 w' ∧ Own w' b2 (bif L 4 then b0.mend.cells else b0.cells) ∧ Own w' b3 (bif L 5 then r0.mend.cells else r0.cells)) (fun wd hwd => ⟨hwd.le, o2.frm hwd, o3.frm hwd⟩) ?_
  refine qs_loada (i := 0) (fun L => bif L 4 then b0.mend.cells else b0.cells) b0.cells ?_ (fun L w h => h.2.1.sg) (fun L hu => by have h := hu.ahead 4 _ rfl rfl; simp [h])
  refine qs_call (v := b0.mend.v) (fun L w hu hs => mended_ok b0 hb w) (fun L w w' h hf => ⟨h.1.trans hf.le, h.2.1.frm hf, h.2.2.frm hf⟩) ?_
  refine qs_loada (i := 0) (fun L => bif L 5 then r0.mend.cells else r0.cells) r0.cells ?_ (fun L w h => h.2.2.sg) (fun L hu => by have h := hu.ahead 5 _ rfl rfl; simp [h])
  refine qs_call (v := r0.mend.v) (fun L w hu hs => mended_ok r0 hr w) (fun L w w' h hf => ⟨h.1.trans hf.le, h.2.1.frm hf, h.2.2.frm hf⟩) ?_
  refine qs_st (b := b2) (i := 0) (u := b0.mend.v) (fun L => bif L 4 then b0.mend.cells else b0.cells) (fun L w h => h.2.1) (fun L w w' hu h ho hl => ⟨h.1.trans (hl.mono (by intro x hx _; simp at hx ⊢; exact .inl hx)), ?_, h.2.2.le hl (by simp; omega)⟩) ?_ (hk := by intro L; cases L 4 <;> rfl)
  · have e : L 4 = false := hu.now
    rw [e] at ho
    exact ho
  refine qs_st (b := b3) (i := 0) (u := r0.mend.v) (fun L => bif L 5 then r0.mend.cells else r0.cells) (fun L w h => h.2.2) (fun L w w' hu h ho hl => ⟨h.1.trans (hl.mono (by intro x hx _; simp at hx ⊢; exact .inr hx)), h.2.1.le hl (by simp; omega), ?_⟩) ?_ (hk := by intro L; cases L 5 <;> rfl)
  · have e : L 5 = false := hu.now
    rw [e] at ho
    exact ho
  refine qs_nil ?_
  intro L w4 hL hS
  have e4 := hL 4 (by decide)
  have e5 := hL 5 (by decide)
  rw [e4, e5] at hS
  clear hL e4 e5 L
  obtain ⟨hl4', o2', o3'⟩ := hS
  replace o2' : Own w4 b2 b0.mend.cells := o2'
  replace o3' : Own w4 b3 r0.mend.cells := o3'
  have o4' : Own w4 b4 lz.cells := o4.le hl4' (by simp; omega)
  have hf4 : Frm w w4 := hf.step hl4' (by intro x hx; simp at hx; omega)
  have gb := b0.mend_sm hb
  have gr := r0.mend_sm hr
  have vb : validR b0.mend.pa = true := valid_mend _
  have vr : validR r0.mend.pa = true := valid_mend _
  generalize b0.mend = b at *
  generalize r0.mend = r at *
  clear o2 o3 o4 hf1 hf2 hf3 hf
  unfold Lnk.sm at gb gr
  refine thn_normal ?_
  refine WC_seq ?_
  refine WC_region ?_
  refine wlalloc fun b5 w5 hb5 o5 hf5 => ?_
  have hd : w.heap.size ≤ b2 ∧ b2 < b3 ∧ b3 < b4 ∧ b4 < b5 := by have := o4'.lt; omega
  have K : Rz w b2 b3 b4 b5 b r lz w5 := ⟨o2'.frm hf5, o3'.frm hf5, o4'.frm hf5, o5, hf4.trans hf5⟩
  clear o2' o3' o4' o5 hf4 hf5 hl4'
  refine WL_nil ?_
  refine thn_normal ?_
  refine WC_seq ?_
  refine WC_region ?_
  refine wl_mkf ?_
  refine wlp ?_
  refine WL_nil ?_
  refine thn_normal ?_
  refine wcut (X := Unit) (fun _ => [(2, ptrAt (pb b2) 0), (3, ptrAt (pb b3) 0), (4, ptrAt (pb b4) 0), (5, ptrAt (pb b5) 0)]) (fun _ w' => Rz w b2 b3 b4 b5 b r (midR b r) w') ?_ ?_
  · obtain ⟨o2, o3, o4, o5, hfr⟩ := id K
    refine sgo ?_
    (show WC _ _ _ _ _ _ _; first | refine WC_dec rfl (fun hc => ?_) (fun hc => ?_) | refine WC_cond rfl (fun hc => ?_) (fun hc => ?_))
    · have em : midR b r = ⟨r.sc, r.ho, dotsL r.pa [], r.qu, r.fr, r.hs, r.hh, r.hq, r.hf⟩ := if_pos hc
      refine sgo ?_
      refine wlstorea0 (vs := r.cells) o5 (fun w6 o6 hl6 => ?_) (hx := rfl) (hy := rfl)
      have K6 := K.step (t' := r) hl6 o6 hd
      clear o2 o3 o4 o5 hfr
      obtain ⟨o2, o3, o4, o5, hfr⟩ := id K6
      refine sgo ?_
      refine wlpure (dots_v r.pa vr (by omega) _) fun w7 hf7 => ?_
      have K7 := K6.frm hf7
      clear o2 o3 o4 o5 hfr
      obtain ⟨o2, o3, o4, o5, hfr⟩ := id K7
      refine sgo ?_
      refine wlst_str o5 fun w8 o8 hl8 => ?_
      have K8 := K7.step (t' := midR b r) hl8 (by rw [em]; exact o8) hd
      clear o2 o3 o4 o5 hfr
      refine sgo ?_
      exact ⟨(), ⟨rfl, rfl, rfl, rfl, trivial⟩, K8⟩
    · have hs0 : ¬ r.hs = true := by rw [hc]; decide
      clear hc
      refine sgo ?_
      (show WC _ _ _ _ _ _ _; first | refine WC_dec rfl (fun hc => ?_) (fun hc => ?_) | refine WC_cond rfl (fun hc => ?_) (fun hc => ?_))
      · have em : midR b r = ⟨[], r.ho, dotsL r.pa [], r.qu, [], false, true, r.hq, false⟩ := by unfold midR; rw [if_neg hs0, if_pos hc]
        refine sgo ?_
        refine wcdraws (fun L w' => Le [b5] w5 w' ∧ Own w' b5 (r.upX (dotsL r.pa []) lz (L 6) (L 8) (L 10)).cells) (fun wd hwd => ⟨hwd.le, o5.frm hwd⟩) ?_
        (repeat (first | refine qs_fld ?_ | refine qsp ?_ | refine qs_slc ?_ | refine qs_bin ?_ | refine qs_idx ?_ | refine qs_len ?_ | refine qs_cnv ?_ | refine qs_idxa ?_ | refine qs_nilc ?_ | refine qs_una ?_))
        refine qs_load (i := 1) (fun _ => r.cells) (v := str r.ho) ?_ (fun L w h => (o3.le h.1 (by simp; omega)).sg) (fun L hu => rfl)
        (repeat (first | refine qs_fld ?_ | refine qsp ?_ | refine qs_slc ?_ | refine qs_bin ?_ | refine qs_idx ?_ | refine qs_len ?_ | refine qs_cnv ?_ | refine qs_idxa ?_ | refine qs_nilc ?_ | refine qs_una ?_))
        refine qs_load (i := 2) (fun _ => r.cells) (v := str r.pa) ?_ (fun L w h => (o3.le h.1 (by simp; omega)).sg) (fun L hu => rfl)
        refine qs_call (v := str (dotsL r.pa [])) (fun L w hu hs => dots_v r.pa vr (by omega) w) (fun L w w' h hf => ⟨h.1.trans hf.le, h.2.frm hf⟩) ?_; (repeat (first | refine qs_fld ?_ | refine qsp ?_ | refine qs_slc ?_ | refine qs_bin ?_ | refine qs_idx ?_ | refine qs_len ?_ | refine qs_cnv ?_ | refine qs_idxa ?_ | refine qs_nilc ?_ | refine qs_una ?_))
        refine qs_st (i := 1) (u := str r.ho) (fun L => (r.upX (dotsL r.pa []) lz (L 6) (L 8) (L 10)).cells) (fun L w h => h.2) (fun L w w' hu h ho hl => ⟨h.1.trans hl, by exact ho⟩) ?_; (repeat (first | refine qs_fld ?_ | refine qsp ?_ | refine qs_slc ?_ | refine qs_bin ?_ | refine qs_idx ?_ | refine qs_len ?_ | refine qs_cnv ?_ | refine qs_idxa ?_ | refine qs_nilc ?_ | refine qs_una ?_))
        refine qs_st (i := 6) (u := .bool true) (fun L => (r.upX (dotsL r.pa []) lz (L 6) (L 8) (L 10)).cells) (fun L w h => h.2) (fun L w w' hu h ho hl => ⟨h.1.trans hl, by exact ho⟩) ?_; (repeat (first | refine qs_fld ?_ | refine qsp ?_ | refine qs_slc ?_ | refine qs_bin ?_ | refine qs_idx ?_ | refine qs_len ?_ | refine qs_cnv ?_ | refine qs_idxa ?_ | refine qs_nilc ?_ | refine qs_una ?_))
        refine qs_st (i := 2) (u := str (dotsL r.pa [])) (fun L => (r.upX (dotsL r.pa []) lz (L 6) (L 8) (L 10)).cells) (fun L w h => h.2) (fun L w w' hu h ho hl => ⟨h.1.trans hl, by exact ho⟩) ?_; (repeat (first | refine qs_fld ?_ | refine qsp ?_ | refine qs_slc ?_ | refine qs_bin ?_ | refine qs_idx ?_ | refine qs_len ?_ | refine qs_cnv ?_ | refine qs_idxa ?_ | refine qs_nilc ?_ | refine qs_una ?_))
        refine qs_nil ?_
        intro L w6 hL hS
        have e6 := hL 6 (by decide)
        have e8 := hL 8 (by decide)
        have e10 := hL 10 (by decide)
        rw [e6, e8, e10] at hS
        clear hL e6 e8 e10 L
        have K6 := K.step (t' := ⟨[], r.ho, dotsL r.pa [], [], [], false, true, false, false⟩) hS.1 hS.2 hd
        clear o2 o3 o4 o5 hfr hS
        obtain ⟨o2, o3, o4, o5, hfr⟩ := id K6
        refine sgo ?_
        refine wlcallv (first := []) (args := [r.v]) (cap := [ptrAt (pb b5) 0]) (takeQ_ok r _ b5 _ o5) fun v w7 hR => ?_
        have K7 := K6.step (t' := midR b r) hR.2 (by rw [em]; exact hR.1) hd
        clear o2 o3 o4 o5 hfr
        refine sgo ?_
        exact ⟨(), ⟨rfl, rfl, rfl, rfl, trivial⟩, K7⟩
      · have hh0 : ¬ r.hh = true := by rw [hc]; decide
        clear hc
        refine sgo ?_
        refine wcdraws (fun L w' => Le [b5] w5 w' ∧ Own w' b5 ((b.upH lz (L 5) (L 7)).cells)) (fun wd hwd => ⟨hwd.le, (o5).frm hwd⟩) ?_; (repeat (first | refine qs_fld ?_ | refine qsp ?_ | refine qs_slc ?_ | refine qs_bin ?_ | refine qs_idx ?_ | refine qs_len ?_ | refine qs_cnv ?_ | refine qs_idxa ?_ | refine qs_nilc ?_ | refine qs_una ?_)); refine qs_load (i := 1) (fun _ => (b).cells) (v := str b.ho) ?_ (fun L w h => ((o2).le h.1 (by simp; omega)).sg) (fun L hu => rfl); (repeat (first | refine qs_fld ?_ | refine qsp ?_ | refine qs_slc ?_ | refine qs_bin ?_ | refine qs_idx ?_ | refine qs_len ?_ | refine qs_cnv ?_ | refine qs_idxa ?_ | refine qs_nilc ?_ | refine qs_una ?_)); refine qs_load (i := 6) (fun _ => (b).cells) (v := .bool b.hh) ?_ (fun L w h => ((o2).le h.1 (by simp; omega)).sg) (fun L hu => rfl); (repeat (first | refine qs_fld ?_ | refine qsp ?_ | refine qs_slc ?_ | refine qs_bin ?_ | refine qs_idx ?_ | refine qs_len ?_ | refine qs_cnv ?_ | refine qs_idxa ?_ | refine qs_nilc ?_ | refine qs_una ?_)); refine qs_st (i := 1) (u := str b.ho) (fun L => (b.upH lz (L 5) (L 7)).cells) (fun L w h => h.2) (fun L w w' hu h ho hl => ⟨h.1.trans hl, by exact ho⟩) ?_; (repeat (first | refine qs_fld ?_ | refine qsp ?_ | refine qs_slc ?_ | refine qs_bin ?_ | refine qs_idx ?_ | refine qs_len ?_ | refine qs_cnv ?_ | refine qs_idxa ?_ | refine qs_nilc ?_ | refine qs_una ?_)); refine qs_st (i := 6) (u := .bool b.hh) (fun L => (b.upH lz (L 5) (L 7)).cells) (fun L w h => h.2) (fun L w w' hu h ho hl => ⟨h.1.trans hl, by exact ho⟩) ?_; (repeat (first | refine qs_fld ?_ | refine qsp ?_ | refine qs_slc ?_ | refine qs_bin ?_ | refine qs_idx ?_ | refine qs_len ?_ | refine qs_cnv ?_ | refine qs_idxa ?_ | refine qs_nilc ?_ | refine qs_una ?_)); refine qs_nil ?_; intro L w' hL hS; have e5 := hL 5 (by decide); have e7 := hL 7 (by decide); rw [e5, e7] at hS; clear hL e5 e7
        have K6 := K.step (t' := ⟨[], b.ho, [], [], [], false, b.hh, false, false⟩) hS.1 hS.2 hd
        clear o2 o3 o4 o5 hfr hS L
        obtain ⟨o2, o3, o4, o5, hfr⟩ := id K6
        refine sgo ?_
        (show WC _ _ _ _ _ _ _; first | refine WC_dec rfl (fun hc => ?_) (fun hc => ?_) | refine WC_cond rfl (fun hc => ?_) (fun hc => ?_))
        · have em : midR b r = ⟨[], b.ho, b.pa, if r.hq then r.qu else b.qu, [], false, b.hh, if r.hq then r.hq else b.hq, false⟩ := by unfold midR; rw [if_neg hs0, if_neg hh0, if_pos hc]
          refine sgo ?_
          refine wlst_str o5 fun w7 o7 hl7 => ?_
          have K7 := K6.step (t' := ⟨[], b.ho, b.pa, [], [], false, b.hh, false, false⟩) hl7 o7 hd
          clear o2 o3 o4 o5 hfr
          obtain ⟨o2, o3, o4, o5, hfr⟩ := id K7
          refine sgo ?_
          refine wlcallv (first := []) (args := [b.v]) (cap := [ptrAt (pb b5) 0]) (takeQ_ok b _ b5 _ o5) fun v w8 hR => ?_
          have K8 := K7.step (t' := ⟨[], b.ho, b.pa, b.qu, [], false, b.hh, b.hq, false⟩) hR.2 hR.1 hd
          clear o2 o3 o4 o5 hfr
          obtain ⟨o2, o3, o4, o5, hfr⟩ := id K8
          refine sgo ?_
          (show WC _ _ _ _ _ _ _; first | refine WC_dec rfl (fun hc => ?_) (fun hc => ?_) | refine WC_cond rfl (fun hc => ?_) (fun hc => ?_))
          · refine sgo ?_
            refine wlcallv (first := []) (args := [r.v]) (cap := [ptrAt (pb b5) 0]) (takeQ_ok r _ b5 _ o5) fun v w9 hR => ?_
            have em' : midR b r = ⟨[], b.ho, b.pa, r.qu, [], false, b.hh, r.hq, false⟩ := by rw [em, hc]; rfl
            have K9 := K8.step (t' := midR b r) hR.2 (by rw [em']; exact hR.1) hd
            refine sgo ?_
            exact ⟨(), ⟨rfl, rfl, rfl, rfl, trivial⟩, K9⟩
          · refine sgo ?_
            have em' : midR b r = ⟨[], b.ho, b.pa, b.qu, [], false, b.hh, b.hq, false⟩ := by rw [em, hc]; rfl
            exact ⟨(), ⟨rfl, rfl, rfl, rfl, trivial⟩, by rw [em']; exact K8⟩
        · have hp0 : ¬ r.pa = [] := hc
          have hpl : 0 < r.pa.length := List.length_pos_iff.2 hp0
          clear hc
          refine sgo ?_
          (show WC _ _ _ _ _ _ _; first | refine WC_dec rfl (fun hc => ?_) (fun hc => ?_) | refine WC_cond rfl (fun hc => ?_) (fun hc => ?_))
          · have hc' : at0 r.pa 0 = 47 := by have : ((at0 r.pa 0 : Nat) : Int) = 47 := hc; omega
            have em : midR b r = ⟨[], b.ho, dotsL r.pa [], r.qu, [], false, b.hh, r.hq, false⟩ := by unfold midR; rw [if_neg hs0, if_neg hh0, if_neg hp0, if_pos hc']
            refine sgo ?_
            refine wlpure (dots_v r.pa vr (by omega) _) fun w7 hf7 => ?_
            have K7 := K6.frm hf7
            clear o2 o3 o4 o5 hfr
            obtain ⟨o2, o3, o4, o5, hfr⟩ := id K7
            refine sgo ?_
            refine wlst_str o5 fun w8 o8 hl8 => ?_
            have K8 := K7.step (t' := ⟨[], b.ho, dotsL r.pa [], [], [], false, b.hh, false, false⟩) hl8 o8 hd
            clear o2 o3 o4 o5 hfr
            obtain ⟨o2, o3, o4, o5, hfr⟩ := id K8
            refine sgo ?_
            refine wlcallv (first := []) (args := [r.v]) (cap := [ptrAt (pb b5) 0]) (takeQ_ok r _ b5 _ o5) fun v w9 hR => ?_
            have K9 := K8.step (t' := midR b r) hR.2 (by rw [em]; exact hR.1) hd
            refine sgo ?_
            exact ⟨(), ⟨rfl, rfl, rfl, rfl, trivial⟩, K9⟩
          · have hc' : ¬ at0 r.pa 0 = 47 := fun h => hc (by show ((at0 r.pa 0 : Nat) : Int) = 47; omega)
            have em : midR b r = ⟨[], b.ho, dotsL (merR b r.pa) [], r.qu, [], false, b.hh, r.hq, false⟩ := by unfold midR; rw [if_neg hs0, if_neg hh0, if_neg hp0, if_neg hc']
            have hml := merR_len b r.pa
            refine sgo ?_
            refine wlpure (merged_ok b r.pa (by omega) (by omega) _) fun w6' hf6' => ?_
            refine sgo ?_
            refine wlpure (dots_v (merR b r.pa) (merR_valid vb vr) (by omega) _) fun w7 hf7 => ?_
            have K7 := (K6.frm hf6').frm hf7
            clear o2 o3 o4 o5 hfr
            obtain ⟨o2, o3, o4, o5, hfr⟩ := id K7
            refine sgo ?_
            refine wlst_str o5 fun w8 o8 hl8 => ?_
            have K8 := K7.step (t' := ⟨[], b.ho, dotsL (merR b r.pa) [], [], [], false, b.hh, false, false⟩) hl8 o8 hd
            clear o2 o3 o4 o5 hfr
            obtain ⟨o2, o3, o4, o5, hfr⟩ := id K8
            refine sgo ?_
            refine wlcallv (first := []) (args := [r.v]) (cap := [ptrAt (pb b5) 0]) (takeQ_ok r _ b5 _ o5) fun v w9 hR => ?_
            have K9 := K8.step (t' := midR b r) hR.2 (by rw [em]; exact hR.1) hd
            refine sgo ?_
            exact ⟨(), ⟨rfl, rfl, rfl, rfl, trivial⟩, K9⟩
  · rintro - w6 ρ K6
    rw [resR_mid]
    generalize midR b r = m at *
    obtain ⟨o2, o3, o4, o5, hfr⟩ := id K6
    refine sgo ?_
    (show WC _ _ _ _ _ _ _; first | refine WC_dec rfl (fun hc => ?_) (fun hc => ?_) | refine WC_cond rfl (fun hc => ?_) (fun hc => ?_))
    · have hs0 : r.hs = false := by simpa using hc
      clear hc
      refine sgo ?_
      refine wcdraws (fun L w' => Le [b5] w6 w' ∧ Own w' b5 ((b.upS m (L 5) (L 7)).cells)) (fun wd hwd => ⟨hwd.le, (o5).frm hwd⟩) ?_; (repeat (first | refine qs_fld ?_ | refine qsp ?_ | refine qs_slc ?_ | refine qs_bin ?_ | refine qs_idx ?_ | refine qs_len ?_ | refine qs_cnv ?_ | refine qs_idxa ?_ | refine qs_nilc ?_ | refine qs_una ?_)); refine qs_load (i := 0) (fun _ => (b).cells) (v := str b.sc) ?_ (fun L w h => ((o2).le h.1 (by simp; omega)).sg) (fun L hu => rfl); (repeat (first | refine qs_fld ?_ | refine qsp ?_ | refine qs_slc ?_ | refine qs_bin ?_ | refine qs_idx ?_ | refine qs_len ?_ | refine qs_cnv ?_ | refine qs_idxa ?_ | refine qs_nilc ?_ | refine qs_una ?_)); refine qs_load (i := 5) (fun _ => (b).cells) (v := .bool b.hs) ?_ (fun L w h => ((o2).le h.1 (by simp; omega)).sg) (fun L hu => rfl); (repeat (first | refine qs_fld ?_ | refine qsp ?_ | refine qs_slc ?_ | refine qs_bin ?_ | refine qs_idx ?_ | refine qs_len ?_ | refine qs_cnv ?_ | refine qs_idxa ?_ | refine qs_nilc ?_ | refine qs_una ?_)); refine qs_st (i := 0) (u := str b.sc) (fun L => (b.upS m (L 5) (L 7)).cells) (fun L w h => h.2) (fun L w w' hu h ho hl => ⟨h.1.trans hl, by exact ho⟩) ?_; (repeat (first | refine qs_fld ?_ | refine qsp ?_ | refine qs_slc ?_ | refine qs_bin ?_ | refine qs_idx ?_ | refine qs_len ?_ | refine qs_cnv ?_ | refine qs_idxa ?_ | refine qs_nilc ?_ | refine qs_una ?_)); refine qs_st (i := 5) (u := .bool b.hs) (fun L => (b.upS m (L 5) (L 7)).cells) (fun L w h => h.2) (fun L w w' hu h ho hl => ⟨h.1.trans hl, by exact ho⟩) ?_; (repeat (first | refine qs_fld ?_ | refine qsp ?_ | refine qs_slc ?_ | refine qs_bin ?_ | refine qs_idx ?_ | refine qs_len ?_ | refine qs_cnv ?_ | refine qs_idxa ?_ | refine qs_nilc ?_ | refine qs_una ?_)); refine qs_nil ?_; intro L w' hL hS; have e5 := hL 5 (by decide); have e7 := hL 7 (by decide); rw [e5, e7] at hS; clear hL e5 e7
      have K7 := K6.step (t' := b.upS m true true) hS.1 hS.2 hd
      rename World => w7
      clear o2 o3 o4 o5 hfr hS L
      obtain ⟨o2, o3, o4, o5, hfr⟩ := id K7
      refine sgo ?_
      refine wcdraws (fun L w' => Le [b5] w7 w' ∧ Own w' b5 ((r.upF (b.upS m true true) (L 5) (L 7)).cells)) (fun wd hwd => ⟨hwd.le, (o5).frm hwd⟩) ?_; (repeat (first | refine qs_fld ?_ | refine qsp ?_ | refine qs_slc ?_ | refine qs_bin ?_ | refine qs_idx ?_ | refine qs_len ?_ | refine qs_cnv ?_ | refine qs_idxa ?_ | refine qs_nilc ?_ | refine qs_una ?_)); refine qs_load (i := 4) (fun _ => (r).cells) (v := str r.fr) ?_ (fun L w h => ((o3).le h.1 (by simp; omega)).sg) (fun L hu => rfl); (repeat (first | refine qs_fld ?_ | refine qsp ?_ | refine qs_slc ?_ | refine qs_bin ?_ | refine qs_idx ?_ | refine qs_len ?_ | refine qs_cnv ?_ | refine qs_idxa ?_ | refine qs_nilc ?_ | refine qs_una ?_)); refine qs_load (i := 8) (fun _ => (r).cells) (v := .bool r.hf) ?_ (fun L w h => ((o3).le h.1 (by simp; omega)).sg) (fun L hu => rfl); (repeat (first | refine qs_fld ?_ | refine qsp ?_ | refine qs_slc ?_ | refine qs_bin ?_ | refine qs_idx ?_ | refine qs_len ?_ | refine qs_cnv ?_ | refine qs_idxa ?_ | refine qs_nilc ?_ | refine qs_una ?_)); refine qs_st (i := 4) (u := str r.fr) (fun L => (r.upF (b.upS m true true) (L 5) (L 7)).cells) (fun L w h => h.2) (fun L w w' hu h ho hl => ⟨h.1.trans hl, by exact ho⟩) ?_; (repeat (first | refine qs_fld ?_ | refine qsp ?_ | refine qs_slc ?_ | refine qs_bin ?_ | refine qs_idx ?_ | refine qs_len ?_ | refine qs_cnv ?_ | refine qs_idxa ?_ | refine qs_nilc ?_ | refine qs_una ?_)); refine qs_st (i := 8) (u := .bool r.hf) (fun L => (r.upF (b.upS m true true) (L 5) (L 7)).cells) (fun L w h => h.2) (fun L w w' hu h ho hl => ⟨h.1.trans hl, by exact ho⟩) ?_; (repeat (first | refine qs_fld ?_ | refine qsp ?_ | refine qs_slc ?_ | refine qs_bin ?_ | refine qs_idx ?_ | refine qs_len ?_ | refine qs_cnv ?_ | refine qs_idxa ?_ | refine qs_nilc ?_ | refine qs_una ?_)); refine qs_nil ?_; intro L w' hL hS; have e5 := hL 5 (by decide); have e7 := hL 7 (by decide); rw [e5, e7] at hS; clear hL e5 e7
      have KF := K7.step (t' := r.upF (b.upS m true true) true true) hS.1 hS.2 hd
      clear o2 o3 o4 o5 hfr hS L
      obtain ⟨o2, o3, o4, o5, hfr⟩ := id KF
      refine sgo ?_
      refine wlstorea0 (vs := (r.upF (b.upS m true true) true true).cells) o4 (fun w9 o9 hl9 => ?_) (hx := rfl) (hy := rfl)
      refine sgo ?_
      refine fpc (.inl rfl) rfl rfl rfl o9 ⟨?_, hfr.step hl9 (by intro x hx; simp at hx; omega)⟩
      rw [if_neg (by rw [hs0]; decide)]
    · have hs1 : r.hs = true := by simpa using hc
      clear hc
      refine sgo ?_
      refine wcdraws (fun L w' => Le [b5] w6 w' ∧ Own w' b5 ((r.upF m (L 5) (L 7)).cells)) (fun wd hwd => ⟨hwd.le, (o5).frm hwd⟩) ?_; (repeat (first | refine qs_fld ?_ | refine qsp ?_ | refine qs_slc ?_ | refine qs_bin ?_ | refine qs_idx ?_ | refine qs_len ?_ | refine qs_cnv ?_ | refine qs_idxa ?_ | refine qs_nilc ?_ | refine qs_una ?_)); refine qs_load (i := 4) (fun _ => (r).cells) (v := str r.fr) ?_ (fun L w h => ((o3).le h.1 (by simp; omega)).sg) (fun L hu => rfl); (repeat (first | refine qs_fld ?_ | refine qsp ?_ | refine qs_slc ?_ | refine qs_bin ?_ | refine qs_idx ?_ | refine qs_len ?_ | refine qs_cnv ?_ | refine qs_idxa ?_ | refine qs_nilc ?_ | refine qs_una ?_)); refine qs_load (i := 8) (fun _ => (r).cells) (v := .bool r.hf) ?_ (fun L w h => ((o3).le h.1 (by simp; omega)).sg) (fun L hu => rfl); (repeat (first | refine qs_fld ?_ | refine qsp ?_ | refine qs_slc ?_ | refine qs_bin ?_ | refine qs_idx ?_ | refine qs_len ?_ | refine qs_cnv ?_ | refine qs_idxa ?_ | refine qs_nilc ?_ | refine qs_una ?_)); refine qs_st (i := 4) (u := str r.fr) (fun L => (r.upF m (L 5) (L 7)).cells) (fun L w h => h.2) (fun L w w' hu h ho hl => ⟨h.1.trans hl, by exact ho⟩) ?_; (repeat (first | refine qs_fld ?_ | refine qsp ?_ | refine qs_slc ?_ | refine qs_bin ?_ | refine qs_idx ?_ | refine qs_len ?_ | refine qs_cnv ?_ | refine qs_idxa ?_ | refine qs_nilc ?_ | refine qs_una ?_)); refine qs_st (i := 8) (u := .bool r.hf) (fun L => (r.upF m (L 5) (L 7)).cells) (fun L w h => h.2) (fun L w w' hu h ho hl => ⟨h.1.trans hl, by exact ho⟩) ?_; (repeat (first | refine qs_fld ?_ | refine qsp ?_ | refine qs_slc ?_ | refine qs_bin ?_ | refine qs_idx ?_ | refine qs_len ?_ | refine qs_cnv ?_ | refine qs_idxa ?_ | refine qs_nilc ?_ | refine qs_una ?_)); refine qs_nil ?_; intro L w' hL hS; have e5 := hL 5 (by decide); have e7 := hL 7 (by decide); rw [e5, e7] at hS; clear hL e5 e7
      have KF := K6.step (t' := r.upF m true true) hS.1 hS.2 hd
      clear o2 o3 o4 o5 hfr hS L
      obtain ⟨o2, o3, o4, o5, hfr⟩ := id KF
      refine sgo ?_
      refine wlstorea0 (vs := (r.upF m true true).cells) o4 (fun w9 o9 hl9 => ?_) (hx := rfl) (hy := rfl)
      refine sgo ?_
      refine fpc (.inl rfl) rfl rfl rfl o9 ⟨?_, hfr.step hl9 (by intro x hx; simp at hx; omega)⟩
      rw [if_pos hs1]
end Go.Proofs.Ytffaoehhhdcjjaa
