/-
  Records of links; the parts mended.
-/
import Derived.Test.YtffaoehhhdcjjaaSvLn
import Derived.Test.YtffaoehhhdcjjaaSvLkG
import Derived.Test.YtffaoehhhdcjjaaSvLkH
import Derived.Test.YtffaoehhhdcjjaaSvTabE
set_option linter.unusedSimpArgs false
set_option linter.unusedVariables false
set_option linter.unnecessarySimpa false
namespace Go.Proofs.Ytffaoehhhdcjjaa
open Go Go.Sv Go.RowKit

structure Lnk where
  sc : List UInt8
  ho : List UInt8
  pa : List UInt8
  qu : List UInt8
  fr : List UInt8
  hs : Bool
  hh : Bool
  hq : Bool
  hf : Bool
abbrev Lnk.cells (l : Lnk) : List Value := [str l.sc, str l.ho, str l.pa, str l.qu, str l.fr, .bool l.hs, .bool l.hh, .bool l.hq, .bool l.hf]
abbrev Lnk.v (l : Lnk) : Value := .agg ⟨l.cells⟩
def Lnk.sm (l : Lnk) (n : Nat) : Prop := l.sc.length ≤ n ∧ l.ho.length ≤ n ∧ l.pa.length ≤ n ∧ l.qu.length ≤ n ∧ l.fr.length ≤ n
abbrev Lnk.mend (l : Lnk) : Lnk := ⟨mendR l.sc, mendR l.ho, mendR l.pa, mendR l.qu, mendR l.fr, l.hs, l.hh, l.hq, l.hf⟩
abbrev lz : Lnk := ⟨[], [], [], [], [], false, false, false, false⟩
theorem Lnk.mend_sm {l : Lnk} {n : Nat} (h : l.sm n) : l.mend.sm (4 * n) := by
  have h1 := mendR_len l.sc
  have h2 := mendR_len l.ho
  have h3 := mendR_len l.pa
  have h4 := mendR_len l.qu
  have h5 := mendR_len l.fr
  unfold Lnk.sm Lnk.mend at *
  dsimp only
  omega
theorem Lnk.mend_mend (l : Lnk) : l.mend.mend = l.mend := by simp only [Lnk.mend, Go.Proofs.Ytffaoehhhdcjjaa.mend_mend]
/-! ## fields that are taken over, each or not yet -/
abbrev Lnk.upS (b t : Lnk) (p q : Bool) : Lnk := ⟨bif p then b.sc else t.sc, t.ho, t.pa, t.qu, t.fr, bif q then b.hs else t.hs, t.hh, t.hq, t.hf⟩
abbrev Lnk.upH (b t : Lnk) (p q : Bool) : Lnk := ⟨t.sc, bif p then b.ho else t.ho, t.pa, t.qu, t.fr, t.hs, bif q then b.hh else t.hh, t.hq, t.hf⟩
abbrev Lnk.upQ (b t : Lnk) (p q : Bool) : Lnk := ⟨t.sc, t.ho, t.pa, bif p then b.qu else t.qu, t.fr, t.hs, t.hh, bif q then b.hq else t.hq, t.hf⟩
abbrev Lnk.upF (b t : Lnk) (p q : Bool) : Lnk := ⟨t.sc, t.ho, t.pa, t.qu, bif p then b.fr else t.fr, t.hs, t.hh, t.hq, bif q then b.hf else t.hf⟩

set_option maxHeartbeats 1000000 in
theorem to_ok (l : Lnk) (w : World) : PureC Try.prog 18 #[l.v] w l.v := by
  refine enter (l := [l.v]) Try.func18 rfl Try.ntmps18 (by kernel_rfl) rfl ?_
  refine sgo ?_
  refine wlbox (hx := rfl) fun b1 w1 hb1 ho1 hf1 => ?_
  refine wlalloc fun b2 w2 hb2 ho2 hf2 => ?_
  replace ho1 : Own w1 b1 l.cells := ho1
  have ho1' := ho1.frm hf2
  have hb2' := hf1.size
  refine sgo ?_
  refine wlbuild (cells := l.cells) ?_
  refine sgo ?_
  refine wlstorea0 (vs := l.cells) ho2 (fun w3 ho3 hl3 => ?_) (hx := rfl) (hy := rfl)
  refine sgo ?_
  refine fpc (.inl rfl) rfl rfl rfl ho3 ⟨rfl, (hf1.trans hf2).step hl3 (by have := hf1.size; have := hb2; intro x hx; simp at hx; omega)⟩

def mdC (l : Lnk) (p q r : Bool) : List Value := [str (bif p then mendR l.sc else l.sc), str (bif q then mendR l.ho else l.ho), str (bif r then mendR l.pa else l.pa), str l.qu, str l.fr, .bool l.hs, .bool l.hh, .bool l.hq, .bool l.hf]
def mdD (l : Lnk) (p q : Bool) : List Value := [str (mendR l.sc), str (mendR l.ho), str (mendR l.pa), str (bif p then mendR l.qu else l.qu), str (bif q then mendR l.fr else l.fr), .bool l.hs, .bool l.hh, .bool l.hq, .bool l.hf]
set_option maxHeartbeats 1000000 in
theorem refMended_ok (l : Lnk) (hb : l.sm 16777216) (w : World) : PureC Try.prog 20 #[l.v] w l.mend.v := by
  obtain ⟨g1, g2, g3, g4, g5⟩ := hb
  refine enter (l := [l.v]) Try.func20 rfl Try.ntmps20 (by kernel_rfl) rfl ?_
  refine sgo ?_
  refine wlbox (hx := rfl) fun b1 w1 hb1 ho1 hf1 => ?_
  refine wlalloc fun b2 w2 hb2 ho2 hf2 => ?_
  have ho1' : Own w1 b1 l.cells := ho1
  replace ho1 := ho1'.frm hf2
  have hf02 := hf1.trans hf2
  have hb2' := hf1.size
  have hlt := ho1'.lt
  have hne : b2 ≠ b1 := by omega
  clear ho1'
  refine sgo ?_
  refine wcdraws (fun L w' => Le [b1] w2 w' ∧ Own w' b1 (mdC l (L 10) (L 12) (L 14))) (fun wd hwd => ⟨hwd.le, ho1.frm hwd⟩) ?_
  (repeat (first | refine qs_fld ?_ | refine qsp ?_ | refine qs_slc ?_ | refine qs_bin ?_ | refine qs_idx ?_ | refine qs_len ?_ | refine qs_cnv ?_ | refine qs_idxa ?_ | refine qs_nilc ?_ | refine qs_una ?_)); refine qs_load (i := 0) (fun L => mdC l (L 10) (L 12) (L 14)) (v := str l.sc) ?_ (fun L w h => (h.2).sg) (fun L hu => by have h := hu.ahead 10 _ rfl rfl; simp [mdC, h]); (repeat (first | refine qs_fld ?_ | refine qsp ?_ | refine qs_slc ?_ | refine qs_bin ?_ | refine qs_idx ?_ | refine qs_len ?_ | refine qs_cnv ?_ | refine qs_idxa ?_ | refine qs_nilc ?_ | refine qs_una ?_))
  refine qs_call (v := str (mendR l.sc)) (fun L w hu hs => refMend_ok l.sc (by omega) w) (fun L w w' h hf => ⟨h.1.trans hf.le, h.2.frm hf⟩) ?_; (repeat (first | refine qs_fld ?_ | refine qsp ?_ | refine qs_slc ?_ | refine qs_bin ?_ | refine qs_idx ?_ | refine qs_len ?_ | refine qs_cnv ?_ | refine qs_idxa ?_ | refine qs_nilc ?_ | refine qs_una ?_))
  (repeat (first | refine qs_fld ?_ | refine qsp ?_ | refine qs_slc ?_ | refine qs_bin ?_ | refine qs_idx ?_ | refine qs_len ?_ | refine qs_cnv ?_ | refine qs_idxa ?_ | refine qs_nilc ?_ | refine qs_una ?_)); refine qs_load (i := 1) (fun L => mdC l (L 10) (L 12) (L 14)) (v := str l.ho) ?_ (fun L w h => (h.2).sg) (fun L hu => by have h := hu.ahead 12 _ rfl rfl; simp [mdC, h]); (repeat (first | refine qs_fld ?_ | refine qsp ?_ | refine qs_slc ?_ | refine qs_bin ?_ | refine qs_idx ?_ | refine qs_len ?_ | refine qs_cnv ?_ | refine qs_idxa ?_ | refine qs_nilc ?_ | refine qs_una ?_))
  refine qs_call (v := str (mendR l.ho)) (fun L w hu hs => refMend_ok l.ho (by omega) w) (fun L w w' h hf => ⟨h.1.trans hf.le, h.2.frm hf⟩) ?_; (repeat (first | refine qs_fld ?_ | refine qsp ?_ | refine qs_slc ?_ | refine qs_bin ?_ | refine qs_idx ?_ | refine qs_len ?_ | refine qs_cnv ?_ | refine qs_idxa ?_ | refine qs_nilc ?_ | refine qs_una ?_))
  (repeat (first | refine qs_fld ?_ | refine qsp ?_ | refine qs_slc ?_ | refine qs_bin ?_ | refine qs_idx ?_ | refine qs_len ?_ | refine qs_cnv ?_ | refine qs_idxa ?_ | refine qs_nilc ?_ | refine qs_una ?_)); refine qs_load (i := 2) (fun L => mdC l (L 10) (L 12) (L 14)) (v := str l.pa) ?_ (fun L w h => (h.2).sg) (fun L hu => by have h := hu.ahead 14 _ rfl rfl; simp [mdC, h]); (repeat (first | refine qs_fld ?_ | refine qsp ?_ | refine qs_slc ?_ | refine qs_bin ?_ | refine qs_idx ?_ | refine qs_len ?_ | refine qs_cnv ?_ | refine qs_idxa ?_ | refine qs_nilc ?_ | refine qs_una ?_))
  refine qs_call (v := str (mendR l.pa)) (fun L w hu hs => refMend_ok l.pa (by omega) w) (fun L w w' h hf => ⟨h.1.trans hf.le, h.2.frm hf⟩) ?_; (repeat (first | refine qs_fld ?_ | refine qsp ?_ | refine qs_slc ?_ | refine qs_bin ?_ | refine qs_idx ?_ | refine qs_len ?_ | refine qs_cnv ?_ | refine qs_idxa ?_ | refine qs_nilc ?_ | refine qs_una ?_))
  refine qs_st (i := 0) (u := str (mendR l.sc)) (fun L => mdC l (L 10) (L 12) (L 14)) (fun L w h => h.2) (fun L w w' hu h ho hl => ⟨h.1.trans hl, by exact ho⟩) ?_; (repeat (first | refine qs_fld ?_ | refine qsp ?_ | refine qs_slc ?_ | refine qs_bin ?_ | refine qs_idx ?_ | refine qs_len ?_ | refine qs_cnv ?_ | refine qs_idxa ?_ | refine qs_nilc ?_ | refine qs_una ?_))
  refine qs_st (i := 1) (u := str (mendR l.ho)) (fun L => mdC l (L 10) (L 12) (L 14)) (fun L w h => h.2) (fun L w w' hu h ho hl => ⟨h.1.trans hl, by exact ho⟩) ?_; (repeat (first | refine qs_fld ?_ | refine qsp ?_ | refine qs_slc ?_ | refine qs_bin ?_ | refine qs_idx ?_ | refine qs_len ?_ | refine qs_cnv ?_ | refine qs_idxa ?_ | refine qs_nilc ?_ | refine qs_una ?_))
  refine qs_st (i := 2) (u := str (mendR l.pa)) (fun L => mdC l (L 10) (L 12) (L 14)) (fun L w h => h.2) (fun L w w' hu h ho hl => ⟨h.1.trans hl, by exact ho⟩) ?_; (repeat (first | refine qs_fld ?_ | refine qsp ?_ | refine qs_slc ?_ | refine qs_bin ?_ | refine qs_idx ?_ | refine qs_len ?_ | refine qs_cnv ?_ | refine qs_idxa ?_ | refine qs_nilc ?_ | refine qs_una ?_))
  refine qs_nil ?_
  intro L w3 hL hS
  have e10 := hL 10 (by decide)
  have e12 := hL 12 (by decide)
  have e14 := hL 14 (by decide)
  rw [e10, e12, e14] at hS
  clear hL e10 e12 e14 L
  have ho3 : Own w3 b1 (mdD l false false) := hS.2
  have hl3 := hS.1
  clear hS
  refine sgo ?_
  refine wcdraws (fun L w' => Le [b1] w3 w' ∧ Own w' b1 (mdD l (L 7) (L 9))) (fun wd hwd => ⟨hwd.le, ho3.frm hwd⟩) ?_
  (repeat (first | refine qs_fld ?_ | refine qsp ?_ | refine qs_slc ?_ | refine qs_bin ?_ | refine qs_idx ?_ | refine qs_len ?_ | refine qs_cnv ?_ | refine qs_idxa ?_ | refine qs_nilc ?_ | refine qs_una ?_)); refine qs_load (i := 3) (fun L => mdD l (L 7) (L 9)) (v := str l.qu) ?_ (fun L w h => (h.2).sg) (fun L hu => by have h := hu.ahead 7 _ rfl rfl; simp [mdD, h]); (repeat (first | refine qs_fld ?_ | refine qsp ?_ | refine qs_slc ?_ | refine qs_bin ?_ | refine qs_idx ?_ | refine qs_len ?_ | refine qs_cnv ?_ | refine qs_idxa ?_ | refine qs_nilc ?_ | refine qs_una ?_))
  refine qs_call (v := str (mendR l.qu)) (fun L w hu hs => refMend_ok l.qu (by omega) w) (fun L w w' h hf => ⟨h.1.trans hf.le, h.2.frm hf⟩) ?_; (repeat (first | refine qs_fld ?_ | refine qsp ?_ | refine qs_slc ?_ | refine qs_bin ?_ | refine qs_idx ?_ | refine qs_len ?_ | refine qs_cnv ?_ | refine qs_idxa ?_ | refine qs_nilc ?_ | refine qs_una ?_))
  (repeat (first | refine qs_fld ?_ | refine qsp ?_ | refine qs_slc ?_ | refine qs_bin ?_ | refine qs_idx ?_ | refine qs_len ?_ | refine qs_cnv ?_ | refine qs_idxa ?_ | refine qs_nilc ?_ | refine qs_una ?_)); refine qs_load (i := 4) (fun L => mdD l (L 7) (L 9)) (v := str l.fr) ?_ (fun L w h => (h.2).sg) (fun L hu => by have h := hu.ahead 9 _ rfl rfl; simp [mdD, h]); (repeat (first | refine qs_fld ?_ | refine qsp ?_ | refine qs_slc ?_ | refine qs_bin ?_ | refine qs_idx ?_ | refine qs_len ?_ | refine qs_cnv ?_ | refine qs_idxa ?_ | refine qs_nilc ?_ | refine qs_una ?_))
  refine qs_call (v := str (mendR l.fr)) (fun L w hu hs => refMend_ok l.fr (by omega) w) (fun L w w' h hf => ⟨h.1.trans hf.le, h.2.frm hf⟩) ?_; (repeat (first | refine qs_fld ?_ | refine qsp ?_ | refine qs_slc ?_ | refine qs_bin ?_ | refine qs_idx ?_ | refine qs_len ?_ | refine qs_cnv ?_ | refine qs_idxa ?_ | refine qs_nilc ?_ | refine qs_una ?_))
  refine qs_st (i := 3) (u := str (mendR l.qu)) (fun L => mdD l (L 7) (L 9)) (fun L w h => h.2) (fun L w w' hu h ho hl => ⟨h.1.trans hl, by exact ho⟩) ?_; (repeat (first | refine qs_fld ?_ | refine qsp ?_ | refine qs_slc ?_ | refine qs_bin ?_ | refine qs_idx ?_ | refine qs_len ?_ | refine qs_cnv ?_ | refine qs_idxa ?_ | refine qs_nilc ?_ | refine qs_una ?_))
  refine qs_st (i := 4) (u := str (mendR l.fr)) (fun L => mdD l (L 7) (L 9)) (fun L w h => h.2) (fun L w w' hu h ho hl => ⟨h.1.trans hl, by exact ho⟩) ?_; (repeat (first | refine qs_fld ?_ | refine qsp ?_ | refine qs_slc ?_ | refine qs_bin ?_ | refine qs_idx ?_ | refine qs_len ?_ | refine qs_cnv ?_ | refine qs_idxa ?_ | refine qs_nilc ?_ | refine qs_una ?_))
  refine qs_nil ?_
  intro L w4 hL hS
  have e7 := hL 7 (by decide)
  have e9 := hL 9 (by decide)
  rw [e7, e9] at hS
  clear hL e7 e9 L
  have ho4 : Own w4 b1 l.mend.cells := hS.2
  have hl4 := hl3.trans hS.1
  clear hS
  have ho2' := ho2.le hl4 (by simpa using hne)
  refine sgo ?_
  refine wlstorea0 (vs := l.mend.cells) ho2' (fun w5 ho5 hl5 => ?_) (hx := rfl) (hy := rfl)
  refine sgo ?_
  refine fpc (.inl rfl) rfl rfl rfl ho5 ⟨rfl, (hf02.step hl4 (by intro x hx; simp at hx; omega)).step hl5 (by intro x hx; simp at hx; omega)⟩

def mdE (l : Lnk) (k : Nat) : List Value := [str (if 0 < k then mendR l.sc else l.sc), str (if 1 < k then mendR l.ho else l.ho), str (if 2 < k then mendR l.pa else l.pa), str (if 3 < k then mendR l.qu else l.qu), str (if 4 < k then mendR l.fr else l.fr), .bool l.hs, .bool l.hh, .bool l.hq, .bool l.hf]
set_option maxHeartbeats 1000000 in
theorem mended_ok (l : Lnk) (hb : l.sm 16777216) (w : World) : PureC Try.prog 38 #[l.v] w l.mend.v := by
  obtain ⟨g1, g2, g3, g4, g5⟩ := hb
  refine enter (l := [l.v]) Try.func38 rfl Try.ntmps38 (by kernel_rfl) rfl ?_
  refine sgo ?_
  refine wlbox (hx := rfl) fun b1 w1 hb1 ho1 hf1 => ?_
  refine wlalloc fun b2 w2 hb2 ho2 hf2 => ?_
  have ho1' : Own w1 b1 l.cells := ho1
  replace ho1 := ho1'.frm hf2
  have hf02 := hf1.trans hf2
  have hb2' := hf1.size
  have hlt := ho1'.lt
  clear ho1'
  refine sgo ?_
  refine wlbsn (vs := [ptrAt (pb b1) 0, ptrAt (pb b1) 1, ptrAt (pb b1) 2, ptrAt (pb b1) 3, ptrAt (pb b1) 4]) 5 (fun b3 w3 hb3 ho3 hf3 => ?_) (h1 := by simp [Value.cells])
  have hlt2 := ho2.lt
  have hz3 := hf02.size
  refine sgo ?_
  refine wcloop (X := Nat) (fun k => [(1, ptrAt (pb b1) 0), (2, ptrAt (pb b2) 0), (10, .slice (pb b3) 5 5), (11, int 5), (12, int k)])
    (fun k wr => k ≤ 5 ∧ Own wr b1 (mdE l k) ∧ Own wr b2 lz.cells ∧ Own wr b3 [ptrAt (pb b1) 0, ptrAt (pb b1) 1, ptrAt (pb b1) 2, ptrAt (pb b1) 3, ptrAt (pb b1) 4] ∧ Frm w wr) (fun k => 5 - k) 0 ⟨rfl, rfl, rfl, rfl, rfl, trivial⟩ ⟨by omega, ho1.frm hf3, ho2.frm hf3, ho3, hf02.trans hf3⟩ ?_
  rintro k wr ρ ⟨hk, o1, o2, o3, hfr⟩
  refine sgo ?_
  (show WC _ _ _ _ _ _ _; first | refine WC_dec rfl (fun hc => ?_) (fun hc => ?_) | refine WC_cond rfl (fun hc => ?_) (fun hc => ?_))
  · have hk5 : k = 0 ∨ k = 1 ∨ k = 2 ∨ k = 3 ∨ k = 4 := by omega
    rcases hk5 with rfl | rfl | rfl | rfl | rfl
    · refine sgo ?_
      refine wlpure (mend_ok l.sc (by omega) _) fun w6 hf6 => ?_
      have o1' := o1.frm hf6
      refine sgo ?_
      refine wlst_str o1' (fun w7 o7 hl7 => ?_) (hk := by simp [mdE])
      refine sgo ?_
      exact ⟨1, ⟨rfl, rfl, rfl, rfl, rfl, trivial⟩, ⟨by omega, o7, (o2.frm hf6).le hl7 (by simp; omega), (o3.frm hf6).le hl7 (by simp; omega), (hfr.trans hf6).step hl7 (by intro x hx; simp at hx; omega)⟩, by omega⟩
    · refine sgo ?_
      refine wlpure (mend_ok l.ho (by omega) _) fun w6 hf6 => ?_
      have o1' := o1.frm hf6
      refine sgo ?_
      refine wlst_str o1' (fun w7 o7 hl7 => ?_) (hk := by simp [mdE])
      refine sgo ?_
      exact ⟨2, ⟨rfl, rfl, rfl, rfl, rfl, trivial⟩, ⟨by omega, o7, (o2.frm hf6).le hl7 (by simp; omega), (o3.frm hf6).le hl7 (by simp; omega), (hfr.trans hf6).step hl7 (by intro x hx; simp at hx; omega)⟩, by omega⟩
    · refine sgo ?_
      refine wlpure (mend_ok l.pa (by omega) _) fun w6 hf6 => ?_
      have o1' := o1.frm hf6
      refine sgo ?_
      refine wlst_str o1' (fun w7 o7 hl7 => ?_) (hk := by simp [mdE])
      refine sgo ?_
      exact ⟨3, ⟨rfl, rfl, rfl, rfl, rfl, trivial⟩, ⟨by omega, o7, (o2.frm hf6).le hl7 (by simp; omega), (o3.frm hf6).le hl7 (by simp; omega), (hfr.trans hf6).step hl7 (by intro x hx; simp at hx; omega)⟩, by omega⟩
    · refine sgo ?_
      refine wlpure (mend_ok l.qu (by omega) _) fun w6 hf6 => ?_
      have o1' := o1.frm hf6
      refine sgo ?_
      refine wlst_str o1' (fun w7 o7 hl7 => ?_) (hk := by simp [mdE])
      refine sgo ?_
      exact ⟨4, ⟨rfl, rfl, rfl, rfl, rfl, trivial⟩, ⟨by omega, o7, (o2.frm hf6).le hl7 (by simp; omega), (o3.frm hf6).le hl7 (by simp; omega), (hfr.trans hf6).step hl7 (by intro x hx; simp at hx; omega)⟩, by omega⟩
    · refine sgo ?_
      refine wlpure (mend_ok l.fr (by omega) _) fun w6 hf6 => ?_
      have o1' := o1.frm hf6
      refine sgo ?_
      refine wlst_str o1' (fun w7 o7 hl7 => ?_) (hk := by simp [mdE])
      refine sgo ?_
      exact ⟨5, ⟨rfl, rfl, rfl, rfl, rfl, trivial⟩, ⟨by omega, o7, (o2.frm hf6).le hl7 (by simp; omega), (o3.frm hf6).le hl7 (by simp; omega), (hfr.trans hf6).step hl7 (by intro x hx; simp at hx; omega)⟩, by omega⟩
  · obtain rfl : k = 5 := by omega
    have o1' : Own wr b1 l.mend.cells := o1
    clear o1
    refine sgo ?_
    refine wlstorea0 (vs := l.mend.cells) o2 (fun w5 ho5 hl5 => ?_) (hx := rfl) (hy := rfl)
    refine sgo ?_
    refine fpc (.inl rfl) rfl rfl rfl ho5 ⟨rfl, hfr.step hl5 (by intro x hx; simp at hx; omega)⟩
end Go.Proofs.Ytffaoehhhdcjjaa
