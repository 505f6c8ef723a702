/-
  Package sieveref12: Resolve.
-/
import Derived.Test.YtffaoehhhdcjjaaSvLkK
set_option linter.unusedSimpArgs false
set_option linter.unusedVariables false
set_option linter.unnecessarySimpa false
namespace Go.Proofs.Ytffaoehhhdcjjaa
open Go Go.Sv Go.RowKit
abbrev Lnk.upR (r : Lnk) (d : List UInt8) (t : Lnk) (p q s u v : Bool) : Lnk := ⟨bif p then r.sc else t.sc, bif s then r.ho else t.ho, bif v then d else t.pa, t.qu, t.fr, bif q then true else t.hs, bif u then r.hh else t.hh, t.hq, t.hf⟩
abbrev qf (r : Lnk) : Lnk := ⟨[], [], [], r.qu, r.fr, false, false, r.hq, r.hf⟩
theorem resR_hs {b r : Lnk} (h : r.hs = true) : resR b r = ⟨r.sc, r.ho, dotsL r.pa [], r.qu, r.fr, true, r.hh, r.hq, r.hf⟩ := if_pos h
theorem resR_hh {b r : Lnk} (h : ¬ r.hs = true) (h2 : r.hh = true) : resR b r = ⟨b.sc, r.ho, dotsL r.pa [], r.qu, r.fr, b.hs, true, r.hq, r.hf⟩ := by unfold resR; rw [if_neg h, if_pos h2]
theorem resR_no {b r : Lnk} (h : ¬ r.hs = true) (h2 : ¬ r.hh = true) (h3 : r.pa = []) : resR b r = ⟨b.sc, b.ho, b.pa, if r.hq then r.qu else b.qu, r.fr, b.hs, b.hh, if r.hq then r.hq else b.hq, r.hf⟩ := by
  unfold resR; rw [if_neg h, if_neg h2, if_pos h3]; cases r.hq <;> rfl
theorem resR_ro {b r : Lnk} (h : ¬ r.hs = true) (h2 : ¬ r.hh = true) (h3 : ¬ r.pa = []) (h4 : at0 r.pa 0 = 47) : resR b r = ⟨b.sc, b.ho, dotsL r.pa [], r.qu, r.fr, b.hs, b.hh, r.hq, r.hf⟩ := by
  unfold resR; rw [if_neg h, if_neg h2, if_neg h3, if_pos h4]
theorem resR_me {b r : Lnk} (h : ¬ r.hs = true) (h2 : ¬ r.hh = true) (h3 : ¬ r.pa = []) (h4 : ¬ at0 r.pa 0 = 47) : resR b r = ⟨b.sc, b.ho, dotsL (merR b r.pa) [], r.qu, r.fr, b.hs, b.hh, r.hq, r.hf⟩ := by
  unfold resR; rw [if_neg h, if_neg h2, if_neg h3, if_neg h4]

set_option maxHeartbeats 4000000 in
theorem refResolve_ok (b r : Lnk) (gb : b.sm 134217728) (gr : r.sm 134217728) (w : World) : PureC Try.prog 19 #[b.v, r.v] w (resR b r).v := by
  unfold Lnk.sm at gb gr
  refine enter (l := [b.v, r.v]) Try.func19 rfl Try.ntmps19 (by kernel_rfl) rfl ?_
  refine sgo ?_
  refine wlbox (hx := rfl) fun b2 w1 hb2 o2 hf1 => ?_
  refine wlbox (hx := rfl) fun b3 w2 hb3 o3 hf2 => ?_
  refine wlalloc fun b4 w3 hb4 o4 hf3 => ?_
  replace o2 : Own w1 b2 b.cells := o2
  replace o3 : Own w2 b3 r.cells := o3
  have hl2 := o2.lt
  have hl3 := o3.lt
  have hl4 := o4.lt
  have hz := hf1.size
  replace o2 := (o2.frm hf2).frm hf3
  replace o3 := o3.frm hf3
  have hf := (hf1.trans hf2).trans hf3
  refine sgo ?_
  refine wlbuild (cells := (qf r).cells) ?_
  refine wlalloc fun b5 w4 hb5 o5 hf4 => ?_
  have hd : w.heap.size ≤ b2 ∧ b2 < b3 ∧ b3 < b4 ∧ b4 < b5 := by omega
  refine sgo ?_
  refine wlstorea0 (vs := (qf r).cells) o5 (fun w5 o5' hl5 => ?_) (hx := rfl) (hy := rfl)
  have K : Rz w b2 b3 b4 b5 b r (qf r) w5 := ⟨(o2.frm hf4).le hl5 (by simp; omega), (o3.frm hf4).le hl5 (by simp; omega), (o4.frm hf4).le hl5 (by simp; omega), o5', (hf.trans hf4).step hl5 (by intro x hx; simp at hx; omega)⟩
  clear o2 o3 o4 o5 o5' hl5 hf1 hf2 hf3 hf4 hf
  obtain ⟨o2, o3, o4, o5, hfr⟩ := id K
  refine sgo ?_
  (show WC _ _ _ _ _ _ _; first | refine WC_dec rfl (fun hc => ?_) (fun hc => ?_) | refine WC_cond rfl (fun hc => ?_) (fun hc => ?_))
  · rw [resR_hs hc]
    refine sgo ?_
    refine wcdraws (fun L w' => Le [b5] w5 w' ∧ Own w' b5 (r.upR (dotsL r.pa []) (qf r) (L 10) (L 12) (L 14) (L 16) (L 18)).cells) (fun wd hwd => ⟨hwd.le, o5.frm hwd⟩) ?_
    (repeat (first | refine qs_fld ?_ | refine qsp ?_ | refine qs_slc ?_ | refine qs_bin ?_ | refine qs_idx ?_ | refine qs_len ?_ | refine qs_cnv ?_ | refine qs_idxa ?_ | refine qs_nilc ?_ | refine qs_una ?_))
    refine qs_load (i := 0) (fun _ => r.cells) (v := str r.sc) ?_ (fun L w h => (o3.le h.1 (by simp; omega)).sg) (fun L hu => rfl)
    (repeat (first | refine qs_fld ?_ | refine qsp ?_ | refine qs_slc ?_ | refine qs_bin ?_ | refine qs_idx ?_ | refine qs_len ?_ | refine qs_cnv ?_ | refine qs_idxa ?_ | refine qs_nilc ?_ | refine qs_una ?_))
    refine qs_load (i := 1) (fun _ => r.cells) (v := str r.ho) ?_ (fun L w h => (o3.le h.1 (by simp; omega)).sg) (fun L hu => rfl)
    (repeat (first | refine qs_fld ?_ | refine qsp ?_ | refine qs_slc ?_ | refine qs_bin ?_ | refine qs_idx ?_ | refine qs_len ?_ | refine qs_cnv ?_ | refine qs_idxa ?_ | refine qs_nilc ?_ | refine qs_una ?_))
    refine qs_load (i := 6) (fun _ => r.cells) (v := .bool r.hh) ?_ (fun L w h => (o3.le h.1 (by simp; omega)).sg) (fun L hu => rfl)
    (repeat (first | refine qs_fld ?_ | refine qsp ?_ | refine qs_slc ?_ | refine qs_bin ?_ | refine qs_idx ?_ | refine qs_len ?_ | refine qs_cnv ?_ | refine qs_idxa ?_ | refine qs_nilc ?_ | refine qs_una ?_))
    refine qs_load (i := 2) (fun _ => r.cells) (v := str r.pa) ?_ (fun L w h => (o3.le h.1 (by simp; omega)).sg) (fun L hu => rfl)
    refine qs_call (v := str (dotsL r.pa [])) (fun L w hu hs => refDots_ok r.pa (by omega) w) (fun L w w' h hf => ⟨h.1.trans hf.le, h.2.frm hf⟩) ?_; (repeat (first | refine qs_fld ?_ | refine qsp ?_ | refine qs_slc ?_ | refine qs_bin ?_ | refine qs_idx ?_ | refine qs_len ?_ | refine qs_cnv ?_ | refine qs_idxa ?_ | refine qs_nilc ?_ | refine qs_una ?_))
    refine qs_st (i := 0) (u := str r.sc) (fun L => (r.upR (dotsL r.pa []) (qf r) (L 10) (L 12) (L 14) (L 16) (L 18)).cells) (fun L w h => h.2) (fun L w w' hu h ho hl => ⟨h.1.trans hl, by exact ho⟩) ?_; (repeat (first | refine qs_fld ?_ | refine qsp ?_ | refine qs_slc ?_ | refine qs_bin ?_ | refine qs_idx ?_ | refine qs_len ?_ | refine qs_cnv ?_ | refine qs_idxa ?_ | refine qs_nilc ?_ | refine qs_una ?_))
    refine qs_st (i := 5) (u := .bool true) (fun L => (r.upR (dotsL r.pa []) (qf r) (L 10) (L 12) (L 14) (L 16) (L 18)).cells) (fun L w h => h.2) (fun L w w' hu h ho hl => ⟨h.1.trans hl, by exact ho⟩) ?_; (repeat (first | refine qs_fld ?_ | refine qsp ?_ | refine qs_slc ?_ | refine qs_bin ?_ | refine qs_idx ?_ | refine qs_len ?_ | refine qs_cnv ?_ | refine qs_idxa ?_ | refine qs_nilc ?_ | refine qs_una ?_))
    refine qs_st (i := 1) (u := str r.ho) (fun L => (r.upR (dotsL r.pa []) (qf r) (L 10) (L 12) (L 14) (L 16) (L 18)).cells) (fun L w h => h.2) (fun L w w' hu h ho hl => ⟨h.1.trans hl, by exact ho⟩) ?_; (repeat (first | refine qs_fld ?_ | refine qsp ?_ | refine qs_slc ?_ | refine qs_bin ?_ | refine qs_idx ?_ | refine qs_len ?_ | refine qs_cnv ?_ | refine qs_idxa ?_ | refine qs_nilc ?_ | refine qs_una ?_))
    refine qs_st (i := 6) (u := .bool r.hh) (fun L => (r.upR (dotsL r.pa []) (qf r) (L 10) (L 12) (L 14) (L 16) (L 18)).cells) (fun L w h => h.2) (fun L w w' hu h ho hl => ⟨h.1.trans hl, by exact ho⟩) ?_; (repeat (first | refine qs_fld ?_ | refine qsp ?_ | refine qs_slc ?_ | refine qs_bin ?_ | refine qs_idx ?_ | refine qs_len ?_ | refine qs_cnv ?_ | refine qs_idxa ?_ | refine qs_nilc ?_ | refine qs_una ?_))
    refine qs_st (i := 2) (u := str (dotsL r.pa [])) (fun L => (r.upR (dotsL r.pa []) (qf r) (L 10) (L 12) (L 14) (L 16) (L 18)).cells) (fun L w h => h.2) (fun L w w' hu h ho hl => ⟨h.1.trans hl, by exact ho⟩) ?_; (repeat (first | refine qs_fld ?_ | refine qsp ?_ | refine qs_slc ?_ | refine qs_bin ?_ | refine qs_idx ?_ | refine qs_len ?_ | refine qs_cnv ?_ | refine qs_idxa ?_ | refine qs_nilc ?_ | refine qs_una ?_))
    refine qs_nil ?_
    intro L w6 hL hS
    have e1 := hL 10 (by decide)
    have e2 := hL 12 (by decide)
    have e3 := hL 14 (by decide)
    have e4 := hL 16 (by decide)
    have e5 := hL 18 (by decide)
    rw [e1, e2, e3, e4, e5] at hS
    clear hL e1 e2 e3 e4 e5 L
    have K6 := K.step (t' := ⟨r.sc, r.ho, dotsL r.pa [], r.qu, r.fr, true, r.hh, r.hq, r.hf⟩) hS.1 hS.2 hd
    clear o2 o3 o4 o5 hfr hS
    obtain ⟨o2, o3, o4, o5, hfr⟩ := id K6
    refine sgo ?_
    refine wlstorea0 (vs := Lnk.cells ⟨r.sc, r.ho, dotsL r.pa [], r.qu, r.fr, true, r.hh, r.hq, r.hf⟩) o4 (fun w9 o9 hl9 => ?_) (hx := rfl) (hy := rfl)
    refine sgo ?_
    refine fpc (.inl rfl) rfl rfl rfl o9 ⟨rfl, hfr.step hl9 (by intro x hx; simp at hx; omega)⟩
  have hs0 : ¬ r.hs = true := by rw [hc]; decide
  clear hc
  refine sgo ?_
  refine wcdraws (fun L w' => Le [b5] w5 w' ∧ Own w' b5 ((b.upS (qf r) (L 5) (L 7)).cells)) (fun wd hwd => ⟨hwd.le, (o5).frm hwd⟩) ?_; (repeat (first | refine qs_fld ?_ | refine qsp ?_ | refine qs_slc ?_ | refine qs_bin ?_ | refine qs_idx ?_ | refine qs_len ?_ | refine qs_cnv ?_ | refine qs_idxa ?_ | refine qs_nilc ?_ | refine qs_una ?_)); refine qs_load (i := 0) (fun _ => (b).cells) (v := str b.sc) ?_ (fun L w h => ((o2).le h.1 (by simp; omega)).sg) (fun L hu => rfl); (repeat (first | refine qs_fld ?_ | refine qsp ?_ | refine qs_slc ?_ | refine qs_bin ?_ | refine qs_idx ?_ | refine qs_len ?_ | refine qs_cnv ?_ | refine qs_idxa ?_ | refine qs_nilc ?_ | refine qs_una ?_)); refine qs_load (i := 5) (fun _ => (b).cells) (v := .bool b.hs) ?_ (fun L w h => ((o2).le h.1 (by simp; omega)).sg) (fun L hu => rfl); (repeat (first | refine qs_fld ?_ | refine qsp ?_ | refine qs_slc ?_ | refine qs_bin ?_ | refine qs_idx ?_ | refine qs_len ?_ | refine qs_cnv ?_ | refine qs_idxa ?_ | refine qs_nilc ?_ | refine qs_una ?_)); refine qs_st (i := 0) (u := str b.sc) (fun L => (b.upS (qf r) (L 5) (L 7)).cells) (fun L w h => h.2) (fun L w w' hu h ho hl => ⟨h.1.trans hl, by exact ho⟩) ?_; (repeat (first | refine qs_fld ?_ | refine qsp ?_ | refine qs_slc ?_ | refine qs_bin ?_ | refine qs_idx ?_ | refine qs_len ?_ | refine qs_cnv ?_ | refine qs_idxa ?_ | refine qs_nilc ?_ | refine qs_una ?_)); refine qs_st (i := 5) (u := .bool b.hs) (fun L => (b.upS (qf r) (L 5) (L 7)).cells) (fun L w h => h.2) (fun L w w' hu h ho hl => ⟨h.1.trans hl, by exact ho⟩) ?_; (repeat (first | refine qs_fld ?_ | refine qsp ?_ | refine qs_slc ?_ | refine qs_bin ?_ | refine qs_idx ?_ | refine qs_len ?_ | refine qs_cnv ?_ | refine qs_idxa ?_ | refine qs_nilc ?_ | refine qs_una ?_)); refine qs_nil ?_; intro L w' hL hS; have e5 := hL 5 (by decide); have e7 := hL 7 (by decide); rw [e5, e7] at hS; clear hL e5 e7
  have K7 := K.step (t' := ⟨b.sc, [], [], r.qu, r.fr, b.hs, false, r.hq, r.hf⟩) hS.1 hS.2 hd
  rename World => w7
  clear o2 o3 o4 o5 hfr hS L K
  obtain ⟨o2, o3, o4, o5, hfr⟩ := id K7
  refine sgo ?_
  (show WC _ _ _ _ _ _ _; first | refine WC_dec rfl (fun hc => ?_) (fun hc => ?_) | refine WC_cond rfl (fun hc => ?_) (fun hc => ?_))
  · rw [resR_hh hs0 hc]
    refine sgo ?_
    refine wcdraws (fun L w' => Le [b5] w7 w' ∧ Own w' b5 (r.upX (dotsL r.pa []) ⟨b.sc, [], [], r.qu, r.fr, b.hs, false, r.hq, r.hf⟩ (L 6) (L 8) (L 10)).cells) (fun wd hwd => ⟨hwd.le, o5.frm hwd⟩) ?_
    (repeat (first | refine qs_fld ?_ | refine qsp ?_ | refine qs_slc ?_ | refine qs_bin ?_ | refine qs_idx ?_ | refine qs_len ?_ | refine qs_cnv ?_ | refine qs_idxa ?_ | refine qs_nilc ?_ | refine qs_una ?_))
    refine qs_load (i := 1) (fun _ => r.cells) (v := str r.ho) ?_ (fun L w h => (o3.le h.1 (by simp; omega)).sg) (fun L hu => rfl)
    (repeat (first | refine qs_fld ?_ | refine qsp ?_ | refine qs_slc ?_ | refine qs_bin ?_ | refine qs_idx ?_ | refine qs_len ?_ | refine qs_cnv ?_ | refine qs_idxa ?_ | refine qs_nilc ?_ | refine qs_una ?_))
    refine qs_load (i := 2) (fun _ => r.cells) (v := str r.pa) ?_ (fun L w h => (o3.le h.1 (by simp; omega)).sg) (fun L hu => rfl)
    refine qs_call (v := str (dotsL r.pa [])) (fun L w hu hs => refDots_ok r.pa (by omega) w) (fun L w w' h hf => ⟨h.1.trans hf.le, h.2.frm hf⟩) ?_; (repeat (first | refine qs_fld ?_ | refine qsp ?_ | refine qs_slc ?_ | refine qs_bin ?_ | refine qs_idx ?_ | refine qs_len ?_ | refine qs_cnv ?_ | refine qs_idxa ?_ | refine qs_nilc ?_ | refine qs_una ?_))
    refine qs_st (i := 1) (u := str r.ho) (fun L => (r.upX (dotsL r.pa []) ⟨b.sc, [], [], r.qu, r.fr, b.hs, false, r.hq, r.hf⟩ (L 6) (L 8) (L 10)).cells) (fun L w h => h.2) (fun L w w' hu h ho hl => ⟨h.1.trans hl, by exact ho⟩) ?_; (repeat (first | refine qs_fld ?_ | refine qsp ?_ | refine qs_slc ?_ | refine qs_bin ?_ | refine qs_idx ?_ | refine qs_len ?_ | refine qs_cnv ?_ | refine qs_idxa ?_ | refine qs_nilc ?_ | refine qs_una ?_))
    refine qs_st (i := 6) (u := .bool true) (fun L => (r.upX (dotsL r.pa []) ⟨b.sc, [], [], r.qu, r.fr, b.hs, false, r.hq, r.hf⟩ (L 6) (L 8) (L 10)).cells) (fun L w h => h.2) (fun L w w' hu h ho hl => ⟨h.1.trans hl, by exact ho⟩) ?_; (repeat (first | refine qs_fld ?_ | refine qsp ?_ | refine qs_slc ?_ | refine qs_bin ?_ | refine qs_idx ?_ | refine qs_len ?_ | refine qs_cnv ?_ | refine qs_idxa ?_ | refine qs_nilc ?_ | refine qs_una ?_))
    refine qs_st (i := 2) (u := str (dotsL r.pa [])) (fun L => (r.upX (dotsL r.pa []) ⟨b.sc, [], [], r.qu, r.fr, b.hs, false, r.hq, r.hf⟩ (L 6) (L 8) (L 10)).cells) (fun L w h => h.2) (fun L w w' hu h ho hl => ⟨h.1.trans hl, by exact ho⟩) ?_; (repeat (first | refine qs_fld ?_ | refine qsp ?_ | refine qs_slc ?_ | refine qs_bin ?_ | refine qs_idx ?_ | refine qs_len ?_ | refine qs_cnv ?_ | refine qs_idxa ?_ | refine qs_nilc ?_ | refine qs_una ?_))
    refine qs_nil ?_
    intro L w6 hL hS
    have e6 := hL 6 (by decide)
    have e8 := hL 8 (by decide)
    have e10 := hL 10 (by decide)
    rw [e6, e8, e10] at hS
    clear hL e6 e8 e10 L
    have K6 := K7.step (t' := ⟨b.sc, r.ho, dotsL r.pa [], r.qu, r.fr, b.hs, true, r.hq, r.hf⟩) hS.1 hS.2 hd
    clear o2 o3 o4 o5 hfr hS
    obtain ⟨o2, o3, o4, o5, hfr⟩ := id K6
    refine sgo ?_
    refine wlstorea0 (vs := Lnk.cells ⟨b.sc, r.ho, dotsL r.pa [], r.qu, r.fr, b.hs, true, r.hq, r.hf⟩) o4 (fun w9 o9 hl9 => ?_) (hx := rfl) (hy := rfl)
    refine sgo ?_
    refine fpc (.inl rfl) rfl rfl rfl o9 ⟨rfl, hfr.step hl9 (by intro x hx; simp at hx; omega)⟩
  have hh0 : ¬ r.hh = true := by rw [hc]; decide
  clear hc
  refine sgo ?_
  refine wcdraws (fun L w' => Le [b5] w7 w' ∧ Own w' b5 ((b.upH ⟨b.sc, [], [], r.qu, r.fr, b.hs, false, r.hq, r.hf⟩ (L 5) (L 7)).cells)) (fun wd hwd => ⟨hwd.le, (o5).frm hwd⟩) ?_; (repeat (first | refine qs_fld ?_ | refine qsp ?_ | refine qs_slc ?_ | refine qs_bin ?_ | refine qs_idx ?_ | refine qs_len ?_ | refine qs_cnv ?_ | refine qs_idxa ?_ | refine qs_nilc ?_ | refine qs_una ?_)); refine qs_load (i := 1) (fun _ => (b).cells) (v := str b.ho) ?_ (fun L w h => ((o2).le h.1 (by simp; omega)).sg) (fun L hu => rfl); (repeat (first | refine qs_fld ?_ | refine qsp ?_ | refine qs_slc ?_ | refine qs_bin ?_ | refine qs_idx ?_ | refine qs_len ?_ | refine qs_cnv ?_ | refine qs_idxa ?_ | refine qs_nilc ?_ | refine qs_una ?_)); refine qs_load (i := 6) (fun _ => (b).cells) (v := .bool b.hh) ?_ (fun L w h => ((o2).le h.1 (by simp; omega)).sg) (fun L hu => rfl); (repeat (first | refine qs_fld ?_ | refine qsp ?_ | refine qs_slc ?_ | refine qs_bin ?_ | refine qs_idx ?_ | refine qs_len ?_ | refine qs_cnv ?_ | refine qs_idxa ?_ | refine qs_nilc ?_ | refine qs_una ?_)); refine qs_st (i := 1) (u := str b.ho) (fun L => (b.upH ⟨b.sc, [], [], r.qu, r.fr, b.hs, false, r.hq, r.hf⟩ (L 5) (L 7)).cells) (fun L w h => h.2) (fun L w w' hu h ho hl => ⟨h.1.trans hl, by exact ho⟩) ?_; (repeat (first | refine qs_fld ?_ | refine qsp ?_ | refine qs_slc ?_ | refine qs_bin ?_ | refine qs_idx ?_ | refine qs_len ?_ | refine qs_cnv ?_ | refine qs_idxa ?_ | refine qs_nilc ?_ | refine qs_una ?_)); refine qs_st (i := 6) (u := .bool b.hh) (fun L => (b.upH ⟨b.sc, [], [], r.qu, r.fr, b.hs, false, r.hq, r.hf⟩ (L 5) (L 7)).cells) (fun L w h => h.2) (fun L w w' hu h ho hl => ⟨h.1.trans hl, by exact ho⟩) ?_; (repeat (first | refine qs_fld ?_ | refine qsp ?_ | refine qs_slc ?_ | refine qs_bin ?_ | refine qs_idx ?_ | refine qs_len ?_ | refine qs_cnv ?_ | refine qs_idxa ?_ | refine qs_nilc ?_ | refine qs_una ?_)); refine qs_nil ?_; intro L w' hL hS; have e5 := hL 5 (by decide); have e7 := hL 7 (by decide); rw [e5, e7] at hS; clear hL e5 e7
  have K8 := K7.step (t' := ⟨b.sc, b.ho, [], r.qu, r.fr, b.hs, b.hh, r.hq, r.hf⟩) hS.1 hS.2 hd
  clear o2 o3 o4 o5 hfr hS L K7
  rename World => w8
  obtain ⟨o2, o3, o4, o5, hfr⟩ := id K8
  refine sgo ?_
  (show WC _ _ _ _ _ _ _; first | refine WC_dec rfl (fun hc => ?_) (fun hc => ?_) | refine WC_cond rfl (fun hc => ?_) (fun hc => ?_))
  · rw [resR_no hs0 hh0 hc]
    refine sgo ?_
    refine wlst_str o5 fun w7 o7 hl7 => ?_
    have K7 := K8.step (t' := ⟨b.sc, b.ho, b.pa, r.qu, r.fr, b.hs, b.hh, r.hq, r.hf⟩) hl7 o7 hd
    clear o2 o3 o4 o5 hfr
    obtain ⟨o2, o3, o4, o5, hfr⟩ := id K7
    refine sgo ?_
    (show WC _ _ _ _ _ _ _; first | refine WC_dec rfl (fun hc => ?_) (fun hc => ?_) | refine WC_cond rfl (fun hc => ?_) (fun hc => ?_))
    · have hq0 : r.hq = false := by simpa using hc
      refine sgo ?_
      refine wcdraws (fun L w' => Le [b5] w7 w' ∧ Own w' b5 ((b.upQ ⟨b.sc, b.ho, b.pa, r.qu, r.fr, b.hs, b.hh, r.hq, r.hf⟩ (L 5) (L 7)).cells)) (fun wd hwd => ⟨hwd.le, (o5).frm hwd⟩) ?_; (repeat (first | refine qs_fld ?_ | refine qsp ?_ | refine qs_slc ?_ | refine qs_bin ?_ | refine qs_idx ?_ | refine qs_len ?_ | refine qs_cnv ?_ | refine qs_idxa ?_ | refine qs_nilc ?_ | refine qs_una ?_)); refine qs_load (i := 3) (fun _ => (b).cells) (v := str b.qu) ?_ (fun L w h => ((o2).le h.1 (by simp; omega)).sg) (fun L hu => rfl); (repeat (first | refine qs_fld ?_ | refine qsp ?_ | refine qs_slc ?_ | refine qs_bin ?_ | refine qs_idx ?_ | refine qs_len ?_ | refine qs_cnv ?_ | refine qs_idxa ?_ | refine qs_nilc ?_ | refine qs_una ?_)); refine qs_load (i := 7) (fun _ => (b).cells) (v := .bool b.hq) ?_ (fun L w h => ((o2).le h.1 (by simp; omega)).sg) (fun L hu => rfl); (repeat (first | refine qs_fld ?_ | refine qsp ?_ | refine qs_slc ?_ | refine qs_bin ?_ | refine qs_idx ?_ | refine qs_len ?_ | refine qs_cnv ?_ | refine qs_idxa ?_ | refine qs_nilc ?_ | refine qs_una ?_)); refine qs_st (i := 3) (u := str b.qu) (fun L => (b.upQ ⟨b.sc, b.ho, b.pa, r.qu, r.fr, b.hs, b.hh, r.hq, r.hf⟩ (L 5) (L 7)).cells) (fun L w h => h.2) (fun L w w' hu h ho hl => ⟨h.1.trans hl, by exact ho⟩) ?_; (repeat (first | refine qs_fld ?_ | refine qsp ?_ | refine qs_slc ?_ | refine qs_bin ?_ | refine qs_idx ?_ | refine qs_len ?_ | refine qs_cnv ?_ | refine qs_idxa ?_ | refine qs_nilc ?_ | refine qs_una ?_)); refine qs_st (i := 7) (u := .bool b.hq) (fun L => (b.upQ ⟨b.sc, b.ho, b.pa, r.qu, r.fr, b.hs, b.hh, r.hq, r.hf⟩ (L 5) (L 7)).cells) (fun L w h => h.2) (fun L w w' hu h ho hl => ⟨h.1.trans hl, by exact ho⟩) ?_; (repeat (first | refine qs_fld ?_ | refine qsp ?_ | refine qs_slc ?_ | refine qs_bin ?_ | refine qs_idx ?_ | refine qs_len ?_ | refine qs_cnv ?_ | refine qs_idxa ?_ | refine qs_nilc ?_ | refine qs_una ?_)); refine qs_nil ?_; intro L w' hL hS; have e5 := hL 5 (by decide); have e7 := hL 7 (by decide); rw [e5, e7] at hS; clear hL e5 e7
      have K9 := K7.step (t' := ⟨b.sc, b.ho, b.pa, b.qu, r.fr, b.hs, b.hh, b.hq, r.hf⟩) hS.1 hS.2 hd
      clear o2 o3 o4 o5 hfr hS L
      obtain ⟨o2, o3, o4, o5, hfr⟩ := id K9
      refine sgo ?_
      refine wlstorea0 (vs := Lnk.cells ⟨b.sc, b.ho, b.pa, b.qu, r.fr, b.hs, b.hh, b.hq, r.hf⟩) o4 (fun w9 o9 hl9 => ?_) (hx := rfl) (hy := rfl)
      refine sgo ?_
      refine fpc (.inl rfl) rfl rfl rfl o9 ⟨by rw [hq0]; rfl, hfr.step hl9 (by intro x hx; simp at hx; omega)⟩
    · have hq0 : r.hq = true := by simpa using hc
      refine sgo ?_
      refine wlstorea0 (vs := Lnk.cells ⟨b.sc, b.ho, b.pa, r.qu, r.fr, b.hs, b.hh, r.hq, r.hf⟩) o4 (fun w9 o9 hl9 => ?_) (hx := rfl) (hy := rfl)
      refine sgo ?_
      refine fpc (.inl rfl) rfl rfl rfl o9 ⟨by rw [hq0]; rfl, hfr.step hl9 (by intro x hx; simp at hx; omega)⟩
  have hp0 : ¬ r.pa = [] := hc
  have hpl : 0 < r.pa.length := List.length_pos_iff.2 hp0
  clear hc
  refine sgo ?_
  (show WC _ _ _ _ _ _ _; first | refine WC_dec rfl (fun hc => ?_) (fun hc => ?_) | refine WC_cond rfl (fun hc => ?_) (fun hc => ?_))
  · have hc' : at0 r.pa 0 = 47 := by have : ((at0 r.pa 0 : Nat) : Int) = 47 := hc; omega
    rw [resR_ro hs0 hh0 hp0 hc']
    refine sgo ?_
    refine wlpure (refDots_ok r.pa (by omega) _) fun w7 hf7 => ?_
    have K7 := K8.frm hf7
    clear o2 o3 o4 o5 hfr
    obtain ⟨o2, o3, o4, o5, hfr⟩ := id K7
    refine sgo ?_
    refine wlst_str o5 fun w8 o8 hl8 => ?_
    have K9 := K7.step (t' := ⟨b.sc, b.ho, dotsL r.pa [], r.qu, r.fr, b.hs, b.hh, r.hq, r.hf⟩) hl8 o8 hd
    clear o2 o3 o4 o5 hfr
    obtain ⟨o2, o3, o4, o5, hfr⟩ := id K9
    refine sgo ?_
    refine wlstorea0 (vs := Lnk.cells ⟨b.sc, b.ho, dotsL r.pa [], r.qu, r.fr, b.hs, b.hh, r.hq, r.hf⟩) o4 (fun w9 o9 hl9 => ?_) (hx := rfl) (hy := rfl)
    refine sgo ?_
    refine fpc (.inl rfl) rfl rfl rfl o9 ⟨rfl, hfr.step hl9 (by intro x hx; simp at hx; omega)⟩
  have hc' : ¬ at0 r.pa 0 = 47 := fun h => hc (by show ((at0 r.pa 0 : Nat) : Int) = 47; omega)
  clear hc
  rw [resR_me hs0 hh0 hp0 hc']
  have hml := merR_len b r.pa
  refine sgo ?_
  (show WC _ _ _ _ _ _ _; first | refine WC_dec rfl (fun hc => ?_) (fun hc => ?_) | refine WC_cond rfl (fun hc => ?_) (fun hc => ?_))
  · rw [pkb_and] at hc
    have em : merR b r.pa = 47 :: r.pa := if_pos hc
    refine sgo ?_
    refine wlpure (refDots_ok (47 :: r.pa) (by simp; omega) _) fun w7 hf7 => ?_
    rw [← em]
    have K7 := K8.frm hf7
    clear o2 o3 o4 o5 hfr
    obtain ⟨o2, o3, o4, o5, hfr⟩ := id K7
    refine sgo ?_
    refine wlst_str o5 fun w8 o8 hl8 => ?_
    have K9 := K7.step (t' := ⟨b.sc, b.ho, dotsL (merR b r.pa) [], r.qu, r.fr, b.hs, b.hh, r.hq, r.hf⟩) hl8 o8 hd
    clear o2 o3 o4 o5 hfr
    obtain ⟨o2, o3, o4, o5, hfr⟩ := id K9
    refine sgo ?_
    refine wlstorea0 (vs := Lnk.cells ⟨b.sc, b.ho, dotsL (merR b r.pa) [], r.qu, r.fr, b.hs, b.hh, r.hq, r.hf⟩) o4 (fun w9 o9 hl9 => ?_) (hx := rfl) (hy := rfl)
    refine sgo ?_
    refine fpc (.inl rfl) rfl rfl rfl o9 ⟨rfl, hfr.step hl9 (by intro x hx; simp at hx; omega)⟩
  rw [pkb_and] at hc
  have em : merR b r.pa = b.pa.take (lastN b.pa) ++ r.pa := if_neg (by rw [hc]; decide)
  clear hc
  refine sgo ?_
  refine wcloop (X := Nat) (fun n => [(2, ptrAt (pb b2) 0), (3, ptrAt (pb b3) 0), (4, ptrAt (pb b4) 0), (5, ptrAt (pb b5) 0), (6, int n)]) (fun n wr => n ≤ b.pa.length ∧ lastF b.pa 47 n = lastR b.pa 47 ∧ Rz w b2 b3 b4 b5 b r ⟨b.sc, b.ho, [], r.qu, r.fr, b.hs, b.hh, r.hq, r.hf⟩ wr) (fun n => n) b.pa.length ⟨rfl, rfl, rfl, rfl, rfl, trivial⟩ ⟨Nat.le_refl _, rfl, K8⟩ ?_
  rintro n w7 ρ7 ⟨hn, hlf, K7⟩
  clear o2 o3 o4 o5 hfr K8
  obtain ⟨o2, o3, o4, o5, hfr⟩ := id K7
  rcases n with _ | k
  · have hln : lastN b.pa = 0 := by unfold lastN; rw [← hlf]; rfl
    refine sgo ?_
    (show WC _ _ _ _ _ _ _; first | refine WC_dec rfl (fun hc => ?_) (fun hc => ?_) | refine WC_cond rfl (fun hc => ?_) (fun hc => ?_))
    · exfalso
      simp [pkb_and] at hc
    · refine sgo ?_
      rw [hln] at em
      rw [em] at hml ⊢
      have hdl : (List.take (0) b.pa ++ r.pa).length ≤ 4611686018427387904 := by omega
      generalize hD : dotsL (List.take (0) b.pa ++ r.pa) [] = D at *
      refine wcdraws (fun L w' => Le [b5] w7 w' ∧ Own w' b5 (Lnk.cells ⟨b.sc, b.ho, bif L 9 then D else [], r.qu, r.fr, b.hs, b.hh, r.hq, r.hf⟩)) (fun wd hwd => ⟨hwd.le, o5.frm hwd⟩) ?_
      (repeat (first | refine qs_fld ?_ | refine qsp ?_ | refine qs_slc ?_ | refine qs_bin ?_ | refine qs_idx ?_ | refine qs_len ?_ | refine qs_cnv ?_ | refine qs_idxa ?_ | refine qs_nilc ?_ | refine qs_una ?_))
      refine qs_load (i := 2) (fun _ => b.cells) (v := str b.pa) ?_ (fun L w h => (o2.le h.1 (by simp; omega)).sg) (fun L hu => rfl)
      (repeat (first | refine qs_fld ?_ | refine qsp ?_ | refine qs_slc ?_ | refine qs_bin ?_ | refine qs_idx ?_ | refine qs_len ?_ | refine qs_cnv ?_ | refine qs_idxa ?_ | refine qs_nilc ?_ | refine qs_una ?_))
      refine qs_load (i := 2) (fun _ => r.cells) (v := str r.pa) ?_ (fun L w h => (o3.le h.1 (by simp; omega)).sg) (fun L hu => rfl)
      (repeat (first | refine qs_fld ?_ | refine qsp ?_ | refine qs_slc ?_ | refine qs_bin ?_ | refine qs_idx ?_ | refine qs_len ?_ | refine qs_cnv ?_ | refine qs_idxa ?_ | refine qs_nilc ?_ | refine qs_una ?_))
      refine qs_call (v := str D) (fun L w hu hs => by rw [← hD]; exact refDots_ok (List.take (0) b.pa ++ r.pa) hdl w) (fun L w w' h hf => ⟨h.1.trans hf.le, h.2.frm hf⟩) ?_; (repeat (first | refine qs_fld ?_ | refine qsp ?_ | refine qs_slc ?_ | refine qs_bin ?_ | refine qs_idx ?_ | refine qs_len ?_ | refine qs_cnv ?_ | refine qs_idxa ?_ | refine qs_nilc ?_ | refine qs_una ?_))
      refine qs_st (i := 2) (u := str D) (fun L => Lnk.cells ⟨b.sc, b.ho, bif L 9 then D else [], r.qu, r.fr, b.hs, b.hh, r.hq, r.hf⟩) (fun L w h => h.2) (fun L w w' hu h ho hl => ⟨h.1.trans hl, by exact ho⟩) ?_; (repeat (first | refine qs_fld ?_ | refine qsp ?_ | refine qs_slc ?_ | refine qs_bin ?_ | refine qs_idx ?_ | refine qs_len ?_ | refine qs_cnv ?_ | refine qs_idxa ?_ | refine qs_nilc ?_ | refine qs_una ?_))
      refine qs_nil ?_
      intro L w8 hL hS
      have e9 := hL 9 (by decide)
      rw [e9] at hS
      clear hL e9 L
      have K9 := K7.step (t' := ⟨b.sc, b.ho, D, r.qu, r.fr, b.hs, b.hh, r.hq, r.hf⟩) hS.1 hS.2 hd
      clear o2 o3 o4 o5 hfr hS
      obtain ⟨o2, o3, o4, o5, hfr⟩ := id K9
      refine sgo ?_
      refine wlstorea0 (vs := Lnk.cells ⟨b.sc, b.ho, D, r.qu, r.fr, b.hs, b.hh, r.hq, r.hf⟩) o4 (fun w9 o9 hl9 => ?_) (hx := rfl) (hy := rfl)
      refine sgo ?_
      refine fpc (.inl rfl) rfl rfl rfl o9 ⟨rfl, hfr.step hl9 (by intro x hx; simp at hx; omega)⟩
  · simp only [lastF] at hlf
    have e : (((k + 1 : Nat) : Int) - 1).toNat = k := by omega
    refine sgo ?_
    rw [e]
    (show WC _ _ _ _ _ _ _; first | refine WC_dec rfl (fun hc => ?_) (fun hc => ?_) | refine WC_cond rfl (fun hc => ?_) (fun hc => ?_))
    · have hc' : ¬ at0 b.pa k = 47 := by simp only [pkb_and, Bool.and_eq_true, decide_eq_true_eq] at hc; simp only [at0]; omega
      rw [if_neg hc'] at hlf
      have ek : ((k + 1 : Nat) : Int) - 1 = k := by omega
      refine sgo ?_
      rw [ek]
      exact ⟨k, ⟨rfl, rfl, rfl, rfl, rfl, trivial⟩, ⟨by omega, hlf, K7⟩, by omega⟩
    · have hc' : at0 b.pa k = 47 := by
        have h0 : (0 : Int) < ((k + 1 : Nat) : Int) := by omega
        simp only [pkb_and, h0, decide_true, Bool.true_and, decide_eq_false_iff_not, ne_eq, Decidable.not_not] at hc; simp only [at0]; omega
      rw [if_pos hc'] at hlf
      have hln : lastN b.pa = k + 1 := by unfold lastN; rw [← hlf]; omega
      clear hc hc'
      refine sgo ?_
      rw [hln] at em
      rw [em] at hml ⊢
      have hdl : (List.take (k + 1) b.pa ++ r.pa).length ≤ 4611686018427387904 := by omega
      generalize hD : dotsL (List.take (k + 1) b.pa ++ r.pa) [] = D at *
      refine wcdraws (fun L w' => Le [b5] w7 w' ∧ Own w' b5 (Lnk.cells ⟨b.sc, b.ho, bif L 9 then D else [], r.qu, r.fr, b.hs, b.hh, r.hq, r.hf⟩)) (fun wd hwd => ⟨hwd.le, o5.frm hwd⟩) ?_
      (repeat (first | refine qs_fld ?_ | refine qsp ?_ | refine qs_slc ?_ | refine qs_bin ?_ | refine qs_idx ?_ | refine qs_len ?_ | refine qs_cnv ?_ | refine qs_idxa ?_ | refine qs_nilc ?_ | refine qs_una ?_))
      refine qs_load (i := 2) (fun _ => b.cells) (v := str b.pa) ?_ (fun L w h => (o2.le h.1 (by simp; omega)).sg) (fun L hu => rfl)
      (repeat (first | refine qs_fld ?_ | refine qsp ?_ | refine qs_slc ?_ | refine qs_bin ?_ | refine qs_idx ?_ | refine qs_len ?_ | refine qs_cnv ?_ | refine qs_idxa ?_ | refine qs_nilc ?_ | refine qs_una ?_))
      refine qs_load (i := 2) (fun _ => r.cells) (v := str r.pa) ?_ (fun L w h => (o3.le h.1 (by simp; omega)).sg) (fun L hu => rfl)
      (repeat (first | refine qs_fld ?_ | refine qsp ?_ | refine qs_slc ?_ | refine qs_bin ?_ | refine qs_idx ?_ | refine qs_len ?_ | refine qs_cnv ?_ | refine qs_idxa ?_ | refine qs_nilc ?_ | refine qs_una ?_))
      refine qs_call (v := str D) (fun L w hu hs => by rw [← hD]; exact refDots_ok (List.take (k + 1) b.pa ++ r.pa) hdl w) (fun L w w' h hf => ⟨h.1.trans hf.le, h.2.frm hf⟩) ?_; (repeat (first | refine qs_fld ?_ | refine qsp ?_ | refine qs_slc ?_ | refine qs_bin ?_ | refine qs_idx ?_ | refine qs_len ?_ | refine qs_cnv ?_ | refine qs_idxa ?_ | refine qs_nilc ?_ | refine qs_una ?_))
      refine qs_st (i := 2) (u := str D) (fun L => Lnk.cells ⟨b.sc, b.ho, bif L 9 then D else [], r.qu, r.fr, b.hs, b.hh, r.hq, r.hf⟩) (fun L w h => h.2) (fun L w w' hu h ho hl => ⟨h.1.trans hl, by exact ho⟩) ?_; (repeat (first | refine qs_fld ?_ | refine qsp ?_ | refine qs_slc ?_ | refine qs_bin ?_ | refine qs_idx ?_ | refine qs_len ?_ | refine qs_cnv ?_ | refine qs_idxa ?_ | refine qs_nilc ?_ | refine qs_una ?_))
      refine qs_nil ?_
      intro L w8 hL hS
      have e9 := hL 9 (by decide)
      rw [e9] at hS
      clear hL e9 L
      have K9 := K7.step (t' := ⟨b.sc, b.ho, D, r.qu, r.fr, b.hs, b.hh, r.hq, r.hf⟩) hS.1 hS.2 hd
      clear o2 o3 o4 o5 hfr hS
      obtain ⟨o2, o3, o4, o5, hfr⟩ := id K9
      refine sgo ?_
      refine wlstorea0 (vs := Lnk.cells ⟨b.sc, b.ho, D, r.qu, r.fr, b.hs, b.hh, r.hq, r.hf⟩) o4 (fun w9 o9 hl9 => ?_) (hx := rfl) (hy := rfl)
      refine sgo ?_
      refine fpc (.inl rfl) rfl rfl rfl o9 ⟨rfl, hfr.step hl9 (by intro x hx; simp at hx; omega)⟩
end Go.Proofs.Ytffaoehhhdcjjaa
