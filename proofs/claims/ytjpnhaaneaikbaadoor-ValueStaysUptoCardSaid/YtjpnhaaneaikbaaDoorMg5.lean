/-
  Our texts SvVbD, SvVbE, SvHideA, SvVbF, SvVbG, SvVbH, SvRf, SvKp, SvKq, SvVbI, SvPost, SvOpen, SvOpn, SvOpn13, SvNever, SvLaid, SvValW, joined.
-/
import Derived.Test.YtjpnhaaneaikbaaDoorMg4
import Derived.ChangeSame
import Derived.Test.YtjpnhaaneaikbaaDoorRows
import Derived.WalkKit
import Derived.ProofKit
import Derived.OpenShut
import Derived.JoinedCond
import Derived.Deep.Slices
import Derived.WideKeyArgs
import Derived.Lib.LaidTab
import Derived.Deep.DeepHandedRow
import Derived.Deep.DeepWitnessRowRef
/-
  Package value: small letters, and the kind oneOf.
-/
set_option linter.unusedSimpArgs false
set_option linter.unusedVariables false
set_option linter.unnecessarySimpa false
namespace Go.Proofs.YtjpnhaaneaikbaaDoor
open Go Go.Sv Go.RowKit

set_option maxHeartbeats 1000000 in
theorem vLower_ok (l : List UInt8) (hb : l.length ≤ 1073741824) (w : World) : PureC Tryd.prog 57 #[str l] w (str (lowR l)) := by
  refine enter (l := [str l]) Tryd.func57 rfl Tryd.ntmps57 (by kernel_rfl) rfl ?_
  refine sgo ?_
  refine wls2bo rfl (by omega) fun b c w1 hb1 hc1 hc2 ho hf1 => ?_
  refine sgo ?_
  refine wcloop (X := Nat) (fun x => [(3, .slice (pb b) l.length c), (8, .slice (pb b) l.length c), (9, int l.length), (10, int x)])
    (fun x wr => x ≤ l.length ∧ OwnB wr b (lowTo l x) ∧ Frm w wr) (fun x => l.length - x) 0 ⟨rfl, rfl, rfl, rfl, trivial⟩ ⟨by omega, by rw [lowTo_zero]; exact ho, hf1⟩ ?_
  rintro i wr ρ ⟨hi, ho, hfr⟩
  refine sgo ?_
  (show WC _ _ _ _ _ _ _; first | refine WC_dec rfl (fun hc => ?_) (fun hc => ?_) | refine WC_cond rfl (fun hc => ?_) (fun hc => ?_))
  · have hil : i < l.length := by omega
    have hll := lowTo_len l i
    have hld : (bs (lowTo l i))[i]? = some (byt (at0 l i)) := by
      rw [bs_get (by omega)]
      exact congrArg (fun n : Nat => some (byt n)) (lowTo_at l i)
    have h256 := at_lt l i
    refine sgo ?_
    refine wl ?_ (y_load (i := i) rfl ho.sg hld)
    have hup := lowTo_succ l i hil
    have hkp := lowTo_keep l i hil
    generalize at0 l i = a at *
    refine sgo ?_
    (show WC _ _ _ _ _ _ _; first | refine WC_dec rfl (fun hc => ?_) (fun hc => ?_) | refine WC_cond rfl (fun hc => ?_) (fun hc => ?_))
    · simp only [pkb_and, Bool.and_eq_true, decide_eq_true_eq] at hc
      have h65 : 65 ≤ a ∧ a ≤ 90 := by omega
      rw [lowN, show upperR a = true from by simp [upperR, h65], if_pos rfl] at hup
      refine sgo ?_
      refine wlstoreb (v := a + 32) rfl (congrArg byt (by omega)) ho (by omega) (by omega) fun w2 ho2 hl2 => ?_
      have hfr2 := hfr.step hl2 (by intro x hx; simp only [List.mem_singleton] at hx; subst hx; exact hb1)
      refine sgo ?_
      exact ⟨i + 1, ⟨rfl, rfl, rfl, rfl, trivial⟩, ⟨by omega, by rw [hup]; exact ho2, hfr2⟩, by omega⟩
    · simp only [pkb_and, Bool.and_eq_false_iff, decide_eq_false_iff_not] at hc
      have h65 : ¬ (65 ≤ a ∧ a ≤ 90) := by omega
      replace hkp := hkp (by simp only [upperR, ← Bool.decide_and]; exact decide_eq_false h65)
      refine sgo ?_
      exact ⟨i + 1, ⟨rfl, rfl, rfl, rfl, trivial⟩, ⟨by omega, by rw [hkp]; exact ho, hfr⟩, by omega⟩
  · obtain rfl : i = l.length := by omega
    have hll := lowTo_len l l.length
    rw [lowTo_all] at ho hll
    refine sgo ?_
    refine wl ?_ (y_b2s (s := lowR l) (by rw [hll]; rfl) ho.sg)
    refine sgo ?_
    (first | refine fp1 (.inl rfl) rfl rfl ?_ | refine fp2 (.inl rfl) rfl rfl rfl ?_ | refine fp3 (.inl rfl) rfl rfl rfl rfl ?_ | refine fp0 (.inr rfl) rfl ?_ | refine fp0 (.inl rfl) rfl ?_ | refine fp1 (.inr rfl) rfl rfl ?_); refine ⟨?_, by (first | exact Frm.refl _ | assumption | exact Go.Sv.Sep.frm (by assumption) | (refine Frm.trans ?_ (by assumption); first | exact Frm.refl _ | assumption))⟩; (try simp only [realB, rv_true, Nat.reduceBEq, cond_true, cond_false, entG, real_lif, updGL])
/-! ## one of some words -/
def oneT (ws : List (List UInt8)) (v : List UInt8) : List UInt8 × Bool := if lowR v ∈ ws.map lowR then (lowR v, true) else ([], false)
set_option maxHeartbeats 1000000 in
theorem takOneOf_ok (nm : List UInt8) (k : Int) (wp : Option Addr) (ws : List (List UInt8)) (wc : Nat) (sp : Option Addr) (sn sc : Nat) (rel : Bool) (v : List UInt8) (hb : v.length ≤ 1073741824)
    (hws : ∀ x ∈ ws, x.length ≤ 1073741824) (hn : ws.length ≤ 1073741824) (hwc : ws.length ≤ wc) (w : World) (hi : Im [] w wp (strs ws)) : PureC Tryd.prog 45 #[.agg ⟨takV nm k wp ws.length wc sp sn sc rel⟩, str v] w (okV (oneT ws v)) := by
  obtain ⟨R, hR⟩ : ∃ R, R = oneT ws v := ⟨_, rfl⟩
  rw [← hR]
  unfold oneT at hR
  have hlv := fun w => vLower_ok v hb w
  generalize hlow : lowR v = lv at *
  refine enter (l := [.agg ⟨takV nm k wp ws.length wc sp sn sc rel⟩, str v]) Tryd.func45 rfl Tryd.ntmps45 (by kernel_rfl) rfl ?_
  have hS := Sep.start w
  refine sgo ?_
  refine sbox hS fun b2 w1 hS => ?_
  replace hS : Sep w w1 [pOwn b2 (takV nm k wp ws.length wc sp sn sc rel)] := hS
  unfold takV at hS
  refine sgo ?_
  have hf := hS.frm
  clear hS
  have hsl := strs_len ws
  refine wcloop (X := Nat) (fun i => [(1, str v), (11, .slice wp ws.length wc), (12, int ws.length), (13, int i)])
      (fun i wr => i ≤ ws.length ∧ (∀ j, j < i → ∀ x, ws[j]? = some x → lowR x ≠ lv) ∧ Frm w wr) (fun i => ws.length - i) 0 ⟨rfl, rfl, rfl, rfl, trivial⟩ ⟨Nat.zero_le _, by omega, hf⟩ ?_
  clear hf
  rintro i wr ρ ⟨hil0, hj, hf⟩
  refine sgo ?_
  (show WC _ _ _ _ _ _ _; first | refine WC_dec rfl (fun hc => ?_) (fun hc => ?_) | refine WC_cond rfl (fun hc => ?_) (fun hc => ?_))
  · have hil : i < ws.length := by omega
    clear hc
    obtain ⟨x, hx⟩ : ∃ x, ws[i]? = some x := ⟨_, List.getElem?_eq_getElem hil⟩
    have hxv := strs_at hx
    have hxl := hws x (List.mem_of_getElem? hx)
    have hps : ∃ q, wp = some q := hi.some (by rw [hsl]; omega)
    have hSg := (hi.frm hf).sg
    refine sgo ?_
    refine wlpure (vLower_ok x hxl _) fun w2 hf2 => ?_
    replace hf := hf.trans hf2
    clear hf2 hSg
    refine sgo ?_
    refine wlpure (hlv _) fun w3 hf3 => ?_
    replace hf := hf.trans hf3
    clear hf3 hlv
    refine sgo ?_
    (show WC _ _ _ _ _ _ _; first | refine WC_dec rfl (fun hc => ?_) (fun hc => ?_) | refine WC_cond rfl (fun hc => ?_) (fun hc => ?_))
    · have hx2 : lowR x = lv := hc
      have hyes : lv ∈ ws.map lowR := List.mem_map.2 ⟨x, List.mem_of_getElem? hx, hx2⟩
      rw [if_pos hyes] at hR
      subst hR
      refine sgo ?_
      (first | refine fp1 (.inl rfl) rfl rfl ?_ | refine fp2 (.inl rfl) rfl rfl rfl ?_ | refine fp3 (.inl rfl) rfl rfl rfl rfl ?_ | refine fp0 (.inr rfl) rfl ?_ | refine fp0 (.inl rfl) rfl ?_ | refine fp1 (.inr rfl) rfl rfl ?_); refine ⟨?_, by (first | exact Frm.refl _ | assumption | exact Go.Sv.Sep.frm (by assumption) | (refine Frm.trans ?_ (by assumption); first | exact Frm.refl _ | assumption))⟩; (try simp only [realB, rv_true, Nat.reduceBEq, cond_true, cond_false, entG, real_lif, updGL])
      all_goals (rw [hx2]; rfl)
    · have hx2 : ¬ lowR x = lv := hc
      refine sgo ?_
      refine ⟨i + 1, ⟨rfl, rfl, rfl, rfl, trivial⟩, ⟨by omega, fun j hj' y hy => ?_, hf⟩, by omega⟩
      rcases Nat.lt_or_ge j i with h | h
      · exact hj j h y hy
      · obtain rfl : j = i := by omega
        rw [hx] at hy
        rw [← Option.some.inj hy]
        exact hx2
  · obtain rfl : i = ws.length := by omega
    have hno : lv ∉ ws.map lowR := by
      rw [List.mem_map]
      rintro ⟨x, hx, he⟩
      obtain ⟨j, hjl, hje⟩ := List.mem_iff_getElem.1 hx
      exact hj j hjl x (by rw [List.getElem?_eq_getElem hjl, hje]) he
    rw [if_neg hno] at hR
    subst hR
    refine sgo ?_
    (first | refine fp1 (.inl rfl) rfl rfl ?_ | refine fp2 (.inl rfl) rfl rfl rfl ?_ | refine fp3 (.inl rfl) rfl rfl rfl rfl ?_ | refine fp0 (.inr rfl) rfl ?_ | refine fp0 (.inl rfl) rfl ?_ | refine fp1 (.inr rfl) rfl rfl ?_); refine ⟨?_, by (first | exact Frm.refl _ | assumption | exact Go.Sv.Sep.frm (by assumption) | (refine Frm.trans ?_ (by assumption); first | exact Frm.refl _ | assumption))⟩; (try simp only [realB, rv_true, Nat.reduceBEq, cond_true, cond_false, entG, real_lif, updGL])
    all_goals rfl
end Go.Proofs.YtjpnhaaneaikbaaDoor

/-
  Package value: the kind lang.
-/
set_option linter.unusedSimpArgs false
set_option linter.unusedVariables false
set_option linter.unnecessarySimpa false
namespace Go.Proofs.YtjpnhaaneaikbaaDoor
open Go Go.Sv Go.RowKit

/-- the size cell of internal/bytealg holds a number -/
def MaxC (w : World) : Prop := ∃ m, w.cell? ⟨1, 0, none⟩ = some (.int .i64 m)
theorem MaxC.of_shape {w : World} (h : w.ShapedOpen Tryd.prog) : MaxC w := Tryd.laysM146.s1_3 w h
/-- the pieces of a text between bytes -/
def splR (s : List UInt8) (c : UInt8) : List (List UInt8) := (Lib.splitB ⟨#[c]⟩ 0 (Lib.countB ⟨s.toArray⟩ ⟨#[c]⟩) ⟨s.toArray⟩).map fun x => x.data.toList
theorem splR_len (s : List UInt8) (c : UInt8) : (splR s c).length = Lib.countB ⟨s.toArray⟩ ⟨#[c]⟩ + 1 := by
  unfold splR
  rw [List.length_map, Lib.splitB_all ⟨#[c]⟩ (Nat.le_refl 1) 0 _ _ rfl]
theorem vSplit_ok (s : List UInt8) (c : UInt8) (hb : s.length ≤ 1073741824) (w : World) (hM : MaxC w) :
    CallsR Tryd.prog 56 #[str s, str [c]] w fun v w' => ∃ b, v = .slice (pb b) (splR s c).length (splR s c).length ∧ Sep w w' [pOwn b (strs (splR s c))] := by
  obtain ⟨m, hm⟩ := hM
  refine Calls.mono (Tryd.strings_Split ⟨s.toArray⟩ ⟨#[c]⟩ m w (by rw [ByteArray.size]; simp; omega) hm (Nat.le_refl 1)) ?_
  rintro e w' ⟨rfl, rfl⟩
  refine ⟨_, rfl, w.heap.size, ?_, ?_⟩
  · rw [splR_len]
  · refine (Sep.start w).push (frm_alloc w _) ?_ (by simp [pOwn])
    have e : strs (splR s c) = (Lib.splitB ⟨#[c]⟩ 0 (Lib.countB ⟨s.toArray⟩ ⟨#[c]⟩) ⟨s.toArray⟩).map Value.string := by
      unfold splR strs
      rw [List.map_map]
      refine List.map_congr_left fun x _ => ?_
      rfl
    rw [e]
    exact own_alloc w _ _
theorem MaxC.frm {w w' : World} (h : MaxC w) (hf : Frm w w') : MaxC w' := by
  obtain ⟨m, hm⟩ := h
  refine ⟨m, ?_⟩
  have hlt : 1 < w.heap.size := by
    rcases Nat.lt_or_ge 1 w.heap.size with h | h
    · exact h
    · unfold World.cell? at hm
      rw [Array.getElem?_eq_none h] at hm
      cases hm
  unfold World.cell? at hm ⊢
  rw [show w'.heap[1]? = w.heap[1]? from hf.block _ hlt]
  exact hm
/-- one part of a language's name: the first of letters alone -/
def partB (i : Nat) (p : List UInt8) : Bool := !decide (p = []) && (decide (p.length ≤ 8) && p.all fun c => letterR c.toNat || (!decide (i = 0) && digitR c.toNat))
def partsB : Nat → List (List UInt8) → Bool
  | _, [] => true
  | i, p :: l => partB i p && partsB (i + 1) l
def langT (v : List UInt8) : List UInt8 × Bool := if v.length ≤ 100 ∧ partsB 0 (splR v 45) = true then (v, true) else ([], false)
theorem splR_bnd (v : List UInt8) (c : UInt8) : (splR v c).length ≤ v.length + 1 := by
  rw [splR_len]
  have := Lib.countB_le ⟨#[c]⟩ (Nat.le_refl 1) _ ⟨v.toArray⟩ (Nat.le_refl _)
  have e : (⟨v.toArray⟩ : ByteArray).size = v.length := by rw [ByteArray.size]; simp
  omega
section
variable (nm : List UInt8) (k : Int) (wp : Option Addr) (wn wc : Nat) (sp : Option Addr) (sn sc : Nat) (rel : Bool) (v : List UInt8)
set_option maxHeartbeats 1000000 in
theorem takLang_ok (hb : v.length ≤ 1073741824) (w : World) (hM : MaxC w) : PureC Tryd.prog 44 #[.agg ⟨takV nm k wp wn wc sp sn sc rel⟩, str v] w (okV (langT v)) := by
  obtain ⟨R, hR⟩ : ∃ R, R = langT v := ⟨_, rfl⟩
  rw [← hR]
  unfold langT at hR
  have hsb := splR_bnd v 45
  have hspl := fun w hM => vSplit_ok v 45 hb w hM
  refine enter (l := [.agg ⟨takV nm k wp wn wc sp sn sc rel⟩, str v]) Tryd.func44 rfl Tryd.ntmps44 (by kernel_rfl) rfl ?_
  have hS := Sep.start w
  refine sgo ?_
  refine sbox hS fun b2 w1 hS => ?_
  have hf := hS.frm
  clear hS
  refine sgo ?_
  (show WC _ _ _ _ _ _ _; first | refine WC_dec rfl (fun hc => ?_) (fun hc => ?_) | refine WC_cond rfl (fun hc => ?_) (fun hc => ?_))
  · rw [if_neg (by omega)] at hR
    subst hR
    refine sgo ?_
    (first | refine fp1 (.inl rfl) rfl rfl ?_ | refine fp2 (.inl rfl) rfl rfl rfl ?_ | refine fp3 (.inl rfl) rfl rfl rfl rfl ?_ | refine fp0 (.inr rfl) rfl ?_ | refine fp0 (.inl rfl) rfl ?_ | refine fp1 (.inr rfl) rfl rfl ?_); refine ⟨?_, by (first | exact Frm.refl _ | assumption | exact Go.Sv.Sep.frm (by assumption) | (refine Frm.trans ?_ (by assumption); first | exact Frm.refl _ | assumption))⟩; (try simp only [realB, rv_true, Nat.reduceBEq, cond_true, cond_false, entG, real_lif, updGL])
    all_goals rfl
  have h100 : v.length ≤ 100 := by omega
  clear hc
  refine sgo ?_
  refine wlcall (hspl _ (hM.frm hf)) ?_
  rintro _ w3 ⟨b3, rfl, hS3⟩
  replace hf := hf.trans hS3.frm
  have o3 := hS3.own 0 rfl
  clear hS3 hspl hM
  simp only [h100, true_and] at hR
  generalize splR v 45 = L at *
  have hsl := strs_len L
  refine sgo ?_
  refine wcloop (X := Nat) (fun i => [(1, str v), (14, .slice (pb b3) L.length L.length), (15, int L.length), (16, int i)])
      (fun i wr => i ≤ L.length ∧ partsB 0 L = partsB i (L.drop i) ∧ Own wr b3 (strs L) ∧ Frm w wr) (fun i => L.length - i) 0 ⟨rfl, rfl, rfl, rfl, trivial⟩ ⟨Nat.zero_le _, rfl, o3, hf⟩ ?_
  clear hf o3
  rintro i wr ρ ⟨hil0, hp, o3, hf⟩
  refine sgo ?_
  (show WC _ _ _ _ _ _ _; first | refine WC_dec rfl (fun hc => ?_) (fun hc => ?_) | refine WC_cond rfl (fun hc => ?_) (fun hc => ?_))
  · have hil : i < L.length := by omega
    clear hc
    obtain ⟨x, hx⟩ : ∃ x, L[i]? = some x := ⟨_, List.getElem?_eq_getElem hil⟩
    have hxv := strs_at hx
    have hxe : L[i] = x := by rw [List.getElem?_eq_getElem hil] at hx; exact Option.some.inj hx
    rw [List.drop_eq_getElem_cons hil, hxe, partsB, partB] at hp
    refine sgo ?_
    refine WC_cond rfl (fun hc => ?_) (fun hc => ?_)
    · have hno : partsB 0 L = false := by
        rw [hp]
        by_cases h1 : x = []
        · simp [h1]
        · have h2 : 8 < x.length := by
            simp only [h1, decide_false, pkb_or, Bool.false_or, decide_eq_true_eq] at hc
            omega
          have : ¬ x.length ≤ 8 := by omega
          simp [this]
      rw [if_neg (by rw [hno]; exact Bool.false_ne_true)] at hR
      subst hR
      refine sgo ?_
      (first | refine fp1 (.inl rfl) rfl rfl ?_ | refine fp2 (.inl rfl) rfl rfl rfl ?_ | refine fp3 (.inl rfl) rfl rfl rfl rfl ?_ | refine fp0 (.inr rfl) rfl ?_ | refine fp0 (.inl rfl) rfl ?_ | refine fp1 (.inr rfl) rfl rfl ?_); refine ⟨?_, by (first | exact Frm.refl _ | assumption | exact Go.Sv.Sep.frm (by assumption) | (refine Frm.trans ?_ (by assumption); first | exact Frm.refl _ | assumption))⟩; (try simp only [realB, rv_true, Nat.reduceBEq, cond_true, cond_false, entG, real_lif, updGL])
      all_goals rfl
    have hcc : ¬ x = [] ∧ x.length ≤ 8 := by
      simp only [pkb_or, Bool.or_eq_false_iff, decide_eq_false_iff_not] at hc
      exact ⟨hc.1, by omega⟩
    clear hc
    obtain ⟨h1, h2⟩ := hcc
    simp only [h1, h2, decide_true, decide_false, Bool.not_false, Bool.true_and] at hp
    refine sgo ?_
    refine wcloop (X := Nat) (fun j => [(1, str v), (14, .slice (pb b3) L.length L.length), (15, int L.length), (16, int i), (6, int i), (7, str x), (29, int x.length), (30, int j)])
      (fun j wr => j ≤ x.length ∧ (x.all fun c => letterR c.toNat || !decide (i = 0) && digitR c.toNat) = ((x.drop j).all fun c => letterR c.toNat || !decide (i = 0) && digitR c.toNat) ∧ Own wr b3 (strs L) ∧ Frm w wr) (fun j => x.length - j) 0 ⟨rfl, rfl, rfl, rfl, rfl, rfl, rfl, rfl, trivial⟩ ⟨Nat.zero_le _, rfl, o3, hf⟩ ?_
    clear hf o3
    rintro j wr2 ρ2 ⟨hj, hall, o3, hf⟩
    refine sgo ?_
    (show WC _ _ _ _ _ _ _; first | refine WC_dec rfl (fun hc => ?_) (fun hc => ?_) | refine WC_cond rfl (fun hc => ?_) (fun hc => ?_))
    · have hlt : j < x.length := by omega
      rw [List.drop_eq_getElem_cons hlt, List.all_cons] at hall
      have hxj : x[j]?.getD 0 = x[j] := by rw [List.getElem?_eq_getElem hlt]; rfl
      clear hc
      refine sgo ?_
      rw [hxj]
      refine wlpure (vLetter_ok _ _) fun w2 hf2 => ?_
      replace hf := hf.trans hf2
      replace o3 := o3.frm hf2
      clear hf2
      refine sgo ?_
      refine wlcallgp (vals := [byt (x[j]).toNat]) (fun _ => vDigit_ok _ _) fun w2 hf2 => ?_
      replace hf := hf.trans hf2
      replace o3 := o3.frm hf2
      clear hf2
      refine sgo ?_
      have hnm : (letterR (x[j]).toNat || !decide (i = 0) && digitR (x[j]).toNat) = !(pkb (!letterR (x[j]).toNat) (pkb (decide ((i : Int) = 0)) true (!digitR (x[j]).toNat)) false) := by
        have e : decide ((i : Int) = 0) = decide (i = 0) := by rw [Bool.eq_iff_iff]; simp
        rw [e]
        cases letterR (x[j]).toNat <;> cases digitR (x[j]).toNat <;> cases decide (i = 0) <;> rfl
      refine WC_cond rfl (fun hc => ?_) (fun hc => ?_)
      · rw [hc] at hnm
        rw [hnm, Bool.not_true, Bool.false_and] at hall
        have hno : partsB 0 L = false := by rw [hp, hall]; rfl
        rw [if_neg (by rw [hno]; exact Bool.false_ne_true)] at hR
        subst hR
        refine sgo ?_
        (first | refine fp1 (.inl rfl) rfl rfl ?_ | refine fp2 (.inl rfl) rfl rfl rfl ?_ | refine fp3 (.inl rfl) rfl rfl rfl rfl ?_ | refine fp0 (.inr rfl) rfl ?_ | refine fp0 (.inl rfl) rfl ?_ | refine fp1 (.inr rfl) rfl rfl ?_); refine ⟨?_, by (first | exact Frm.refl _ | assumption | exact Go.Sv.Sep.frm (by assumption) | (refine Frm.trans ?_ (by assumption); first | exact Frm.refl _ | assumption))⟩; (try simp only [realB, rv_true, Nat.reduceBEq, cond_true, cond_false, entG, real_lif, updGL])
        all_goals rfl
      · rw [hc] at hnm
        rw [hnm, Bool.not_false, Bool.true_and] at hall
        refine sgo ?_
        exact ⟨j + 1, ⟨rfl, rfl, rfl, rfl, rfl, rfl, rfl, rfl, trivial⟩, ⟨by omega, hall, o3, hf⟩, by omega⟩
    · obtain rfl : j = x.length := by omega
      rw [List.drop_length, List.all_nil] at hall
      rw [hall, Bool.true_and] at hp
      refine sgo ?_
      exact ⟨i + 1, ⟨rfl, rfl, rfl, rfl, trivial⟩, ⟨by omega, hp, o3, hf⟩, by omega⟩
  · obtain rfl : i = L.length := by omega
    rw [List.drop_length, partsB] at hp
    rw [if_pos hp] at hR
    subst hR
    refine sgo ?_
    (first | refine fp1 (.inl rfl) rfl rfl ?_ | refine fp2 (.inl rfl) rfl rfl rfl ?_ | refine fp3 (.inl rfl) rfl rfl rfl rfl ?_ | refine fp0 (.inr rfl) rfl ?_ | refine fp0 (.inl rfl) rfl ?_ | refine fp1 (.inr rfl) rfl rfl ?_); refine ⟨?_, by (first | exact Frm.refl _ | assumption | exact Go.Sv.Sep.frm (by assumption) | (refine Frm.trans ?_ (by assumption); first | exact Frm.refl _ | assumption))⟩; (try simp only [realB, rv_true, Nat.reduceBEq, cond_true, cond_false, entG, real_lif, updGL])
    all_goals rfl
end
end Go.Proofs.YtjpnhaaneaikbaaDoor

/-
  What is put into a link to hide its scheme changes nothing: the plain law.
-/
set_option linter.unusedSimpArgs false
set_option linter.unusedVariables false
set_option linter.unnecessarySimpa false
namespace Go.Proofs.YtjpnhaaneaikbaaDoor
open Go Go.Sv Go.RowKit
theorem keep_cutL : ∀ rs : List Nat, keepN (cutL rs) = cutL (keepN rs)
  | [] => rfl
  | r :: rs => by
    have ih := keep_cutL rs
    unfold cutL keepN at ih ⊢
    rw [List.dropWhile_cons]
    by_cases h : r ≤ 32
    · rw [if_pos (by simpa using h), ih]
      by_cases hk : r ≠ 9 ∧ r ≠ 10 ∧ r ≠ 13
      · rw [List.filter_cons_of_pos (by simpa using hk), List.dropWhile_cons, if_pos (by simpa using h)]
      · rw [List.filter_cons_of_neg (by simpa using hk)]
    · rw [if_neg (by simpa using h)]
      have hk : r ≠ 9 ∧ r ≠ 10 ∧ r ≠ 13 := by omega
      rw [List.filter_cons_of_pos (by simpa using hk), List.dropWhile_cons, if_neg (by simpa using h)]
theorem keep_rev (rs : List Nat) : keepN rs.reverse = (keepN rs).reverse := by simp [keepN, List.filter_reverse]
theorem stripN_eq (rs : List Nat) : stripN rs = cutT (cutL (keepN rs)) := by
  unfold stripN cutT
  rw [keep_rev, keep_cutL, keep_rev, keep_cutL]
/-- what is put in -/
def putR (q : Nat) : List UInt8 := if q = 0 then [9] else if q = 1 then [10] else if q = 2 then [13] else [10, 9]
def hideR (v : List UInt8) (k q : Nat) : List UInt8 := [1, 32] ++ ((runesN v).take k).flatMap encR ++ putR q ++ ((runesN v).drop k).flatMap encR ++ [31, 32, 0]
def putN (q : Nat) : List Nat := if q = 0 then [9] else if q = 1 then [10] else if q = 2 then [13] else [10, 9]
end Go.Proofs.YtjpnhaaneaikbaaDoor

/-
  Package link: Allowed, of any list; package value: the kind link.
-/
set_option linter.unusedSimpArgs false
set_option linter.unusedVariables false
set_option linter.unnecessarySimpa false
namespace Go.Proofs.YtjpnhaaneaikbaaDoor
open Go Go.Sv Go.RowKit
theorem mem_atV {l : List (List UInt8)} {s : List UInt8} (h : ∀ j, j < l.length → l[j]? ≠ some s) : s ∉ l := by
  intro hm
  obtain ⟨j, hj, he⟩ := List.mem_iff_getElem.1 hm
  exact h j hj (by rw [List.getElem?_eq_getElem hj, he])
set_option maxHeartbeats 1000000 in
theorem amongA_ok (l : List (List UInt8)) (s : List UInt8) (sp : Option Addr) (sc : Nat) (hsc : l.length ≤ sc) (c : Nat) (hn : l.length ≤ 1048576) (w : World) (o : Im [] w sp (strs l)) (oc : Own w c [str s]) : CallsR Tryd.prog 68 #[.slice sp l.length sc, ptrAt (pb c) 0] w fun v w' => v = .bool (decide (s ∈ l)) ∧ w' = w := by
  refine enter (l := [.slice sp l.length sc, ptrAt (pb c) 0]) Tryd.func68 rfl Tryd.ntmps68 (by kernel_rfl) rfl ?_
  refine sgo ?_
  refine wcloop (X := Nat) (fun i => [(1, ptrAt (pb c) 0), (6, .slice sp l.length sc), (7, int l.length), (8, int i)]) (fun i wr => i ≤ l.length ∧ (∀ j, j < i → l[j]? ≠ some s) ∧ wr = w) (fun i => l.length - i) 0 ⟨rfl, rfl, rfl, rfl, trivial⟩ ⟨by omega, by omega, rfl⟩ ?_
  rintro i wr ρ ⟨hi, hj, rfl⟩
  refine sgo ?_
  (show WC _ _ _ _ _ _ _; first | refine WC_dec rfl (fun hc => ?_) (fun hc => ?_) | refine WC_cond rfl (fun hc => ?_) (fun hc => ?_))
  · have hil : i < l.length := by omega
    clear hc
    obtain ⟨x, hx⟩ : ∃ x, l[i]? = some x := ⟨_, List.getElem?_eq_getElem hil⟩
    have hxv := strs_at hx
    have hlv := strs_len l
    refine sgo ?_
    (show WC _ _ _ _ _ _ _; first | refine WC_dec rfl (fun hc => ?_) (fun hc => ?_) | refine WC_cond rfl (fun hc => ?_) (fun hc => ?_))
    · have hsx : x = s := hc
      have hK : s ∈ l := hsx ▸ List.mem_of_getElem? hx
      refine sgo ?_
      (first | refine fp1 (.inl rfl) rfl rfl ?_ | refine fp2 (.inl rfl) rfl rfl rfl ?_ | refine fp3 (.inl rfl) rfl rfl rfl rfl ?_ | refine fp0 (.inr rfl) rfl ?_ | refine fp0 (.inl rfl) rfl ?_ | refine fp1 (.inr rfl) rfl rfl ?_)
      exact ⟨by rw [decide_eq_true hK]; rfl, rfl⟩
    · have hsx : ¬ x = s := hc
      refine sgo ?_
      refine ⟨i + 1, ⟨rfl, rfl, rfl, rfl, trivial⟩, ⟨by omega, fun j hj' => ?_, rfl⟩, by omega⟩
      rcases Nat.lt_or_ge j i with h | h
      · exact hj j h
      · obtain rfl : j = i := by omega
        rw [hx]
        intro h2
        exact hsx (Option.some.inj h2)
  · obtain rfl : i = l.length := by omega
    have hK : s ∉ l := mem_atV hj
    refine sgo ?_
    (first | refine fp1 (.inl rfl) rfl rfl ?_ | refine fp2 (.inl rfl) rfl rfl rfl ?_ | refine fp3 (.inl rfl) rfl rfl rfl rfl ?_ | refine fp0 (.inr rfl) rfl ?_ | refine fp0 (.inl rfl) rfl ?_ | refine fp1 (.inr rfl) rfl rfl ?_)
    exact ⟨by rw [decide_eq_false hK]; rfl, rfl⟩
set_option maxHeartbeats 1000000 in
theorem allowedA_ok (v : List UInt8) (l : List (List UInt8)) (rel : Bool) (sp : Option Addr) (sc : Nat) (hsc : l.length ≤ sc) (hb : v.length ≤ 1073741824) (hn : l.length ≤ 1048576) (hl : ∀ s ∈ l, checkR s = 0 ∧ s.length ≤ 4611686018427387904) (w : World) (hG : Never w) (o : Im [] w sp (strs l)) : PureC Tryd.prog 54 #[str v, .slice sp l.length sc, .bool rel] w (.tuple #[.bool (allowR v l rel), int 0]) := by
  obtain ⟨K, e⟩ : ∃ K, K = allowR v l rel := ⟨_, rfl⟩
  rw [← e]
  unfold allowR at e
  have hlv := strs_len l
  refine enter (l := [str v, .slice sp l.length sc, .bool rel]) Tryd.func54 rfl Tryd.ntmps54 (by kernel_rfl) rfl ?_
  refine sgo ?_
  refine wcloop (X := Nat) (fun i => [(0, str v), (1, .slice sp l.length sc), (2, .bool rel), (14, .slice sp l.length sc), (15, int l.length), (16, int i)]) (fun i wr => i ≤ l.length ∧ Frm w wr) (fun i => l.length - i) 0 ⟨rfl, rfl, rfl, rfl, rfl, rfl, trivial⟩ ⟨by omega, Frm.refl _⟩ ?_
  rintro i wr ρ ⟨hi, hfr⟩
  have or := o.frm hfr
  have hGr := hG.frm hfr
  refine sgo ?_
  (show WC _ _ _ _ _ _ _; first | refine WC_dec rfl (fun hc => ?_) (fun hc => ?_) | refine WC_cond rfl (fun hc => ?_) (fun hc => ?_))
  · have hil : i < l.length := by omega
    clear hc
    obtain ⟨x, hx⟩ : ∃ x, l[i]? = some x := ⟨_, List.getElem?_eq_getElem hil⟩
    have hxv := strs_at hx
    have hg := hl x (List.mem_of_getElem? hx)
    refine sgo ?_
    refine wlpure (check_ok x hg.2 _ hGr) fun w2 hf2 => ?_
    rw [hg.1]
    have hfr2 := hfr.trans hf2
    refine sgo ?_
    refine ⟨i + 1, ⟨rfl, rfl, rfl, rfl, rfl, rfl, trivial⟩, ⟨by omega, hfr2⟩, by omega⟩
  clear hc hGr
  refine sgo ?_
  refine wlpure (scheme2_ok v hb _) fun w2 hf2 => ?_
  replace hfr := hfr.trans hf2
  replace or := or.frm hf2
  generalize lowR ((stripR v).take (schemeR (stripR v)).1) = s at *
  generalize (schemeR (stripR v)).2 = ok at *
  refine sgo ?_
  refine wlalloc fun b3 w3 hb3 o3 hf3 => ?_
  have hz := hfr.size
  replace hfr := hfr.trans hf3
  refine sgo ?_
  refine wlst_str o3 fun w4 o4 hl4 => ?_
  have hb3' : w.heap.size ≤ b3 := by omega
  have hfr4 := hfr.step hl4 (by intro x hx; simp at hx; omega)
  have or4 := o.frm hfr4
  clear or hfr hf3 hf2 o3 hl4
  refine sgo ?_
  cases ok with
  | false =>
    rw [if_neg Bool.false_ne_true] at e
    subst e
    refine sgo ?_
    (first | refine fp1 (.inl rfl) rfl rfl ?_ | refine fp2 (.inl rfl) rfl rfl rfl ?_ | refine fp3 (.inl rfl) rfl rfl rfl rfl ?_ | refine fp0 (.inr rfl) rfl ?_ | refine fp0 (.inl rfl) rfl ?_ | refine fp1 (.inr rfl) rfl rfl ?_); refine ⟨?_, by (first | exact Frm.refl _ | assumption | exact Go.Sv.Sep.frm (by assumption) | (refine Frm.trans ?_ (by assumption); first | exact Frm.refl _ | assumption))⟩; (try simp only [realB, rv_true, Nat.reduceBEq, cond_true, cond_false, entG, real_lif, updGL])
  | true =>
    rw [if_pos rfl] at e
    subst e
    refine sgo ?_
    refine wlcallv (first := []) (args := [.slice sp l.length sc]) (cap := [ptrAt (pb b3) 0]) (amongA_ok l s sp sc hsc b3 hn _ or4 o4) fun u w9 hR => ?_
    obtain ⟨rfl, rfl⟩ := hR
    refine sgo ?_
    (first | refine fp1 (.inl rfl) rfl rfl ?_ | refine fp2 (.inl rfl) rfl rfl rfl ?_ | refine fp3 (.inl rfl) rfl rfl rfl rfl ?_ | refine fp0 (.inr rfl) rfl ?_ | refine fp0 (.inl rfl) rfl ?_ | refine fp1 (.inr rfl) rfl rfl ?_); refine ⟨?_, by (first | exact Frm.refl _ | assumption | exact Go.Sv.Sep.frm (by assumption) | (refine Frm.trans ?_ (by assumption); first | exact Frm.refl _ | assumption))⟩; (try simp only [realB, rv_true, Nat.reduceBEq, cond_true, cond_false, entG, real_lif, updGL])
def linkT (l : List (List UInt8)) (rel : Bool) (v : List UInt8) : List UInt8 × Bool := if allowR v l rel = true then (stripR v, true) else ([], false)
set_option maxHeartbeats 1000000 in
theorem takLink_ok (nm : List UInt8) (k : Int) (wp : Option Addr) (wn wc : Nat) (sp : Option Addr) (l : List (List UInt8)) (sc : Nat) (hsc : l.length ≤ sc) (rel : Bool) (v : List UInt8) (hb : v.length ≤ 1073741824) (hn : l.length ≤ 1048576)
    (hl : ∀ s ∈ l, checkR s = 0 ∧ s.length ≤ 4611686018427387904) (w : World) (hG : Never w) (o : Im [] w sp (strs l)) :
    PureC Tryd.prog 43 #[.agg ⟨takV nm k wp wn wc sp l.length sc rel⟩, str v] w (okV (linkT l rel v)) := by
  unfold linkT
  have hal := fun w hG o => allowedA_ok v l rel sp sc hsc hb hn hl w hG o
  generalize allowR v l rel = ok at *
  refine enter (l := [.agg ⟨takV nm k wp wn wc sp l.length sc rel⟩, str v]) Tryd.func43 rfl Tryd.ntmps43 (by kernel_rfl) rfl ?_
  have hS := Sep.start w
  refine sgo ?_
  refine sbox hS fun b2 w1 hS => ?_
  replace hS : Sep w w1 [pOwn b2 (takV nm k wp wn wc sp l.length sc rel)] := hS
  unfold takV at hS
  refine sgo ?_
  have hf := hS.frm
  clear hS
  refine wlpure (hal _ (hG.frm hf) (o.frm hf)) fun w2 hf2 => ?_
  replace hf := hf.trans hf2
  clear hf2 hal
  refine sgo ?_
  cases ok with
  | false =>
    refine sgo ?_
    (first | refine fp1 (.inl rfl) rfl rfl ?_ | refine fp2 (.inl rfl) rfl rfl rfl ?_ | refine fp3 (.inl rfl) rfl rfl rfl rfl ?_ | refine fp0 (.inr rfl) rfl ?_ | refine fp0 (.inl rfl) rfl ?_ | refine fp1 (.inr rfl) rfl rfl ?_); refine ⟨?_, by (first | exact Frm.refl _ | assumption | exact Go.Sv.Sep.frm (by assumption) | (refine Frm.trans ?_ (by assumption); first | exact Frm.refl _ | assumption))⟩; (try simp only [realB, rv_true, Nat.reduceBEq, cond_true, cond_false, entG, real_lif, updGL])
    all_goals rfl
  | true =>
    refine sgo ?_
    refine wlpure (strip_ok v hb _) fun w3 hf3 => ?_
    replace hf := hf.trans hf3
    clear hf3
    refine sgo ?_
    (first | refine fp1 (.inl rfl) rfl rfl ?_ | refine fp2 (.inl rfl) rfl rfl rfl ?_ | refine fp3 (.inl rfl) rfl rfl rfl rfl ?_ | refine fp0 (.inr rfl) rfl ?_ | refine fp0 (.inl rfl) rfl ?_ | refine fp1 (.inr rfl) rfl rfl ?_); refine ⟨?_, by (first | exact Frm.refl _ | assumption | exact Go.Sv.Sep.frm (by assumption) | (refine Frm.trans ?_ (by assumption); first | exact Frm.refl _ | assumption))⟩; (try simp only [realB, rv_true, Nat.reduceBEq, cond_true, cond_false, entG, real_lif, updGL])
    all_goals rfl
/-- Strip, of what is stripped -/
theorem cutL_cutL (rs : List Nat) : cutL (cutL rs) = cutL rs := by
  unfold cutL
  induction rs with
  | nil => rfl
  | cons a l ih =>
    rw [List.dropWhile_cons]
    split
    · exact ih
    · rename_i h
      rw [List.dropWhile_cons, if_neg h]
theorem cutT_cutT (rs : List Nat) : cutT (cutT rs) = cutT rs := by
  unfold cutT
  rw [List.reverse_reverse, cutL_cutL]
theorem cutT_pre (rs : List Nat) : cutT rs <+: rs := by
  unfold cutT cutL
  have h := List.dropWhile_suffix (l := rs.reverse) (fun r => decide (r ≤ 32))
  have := List.reverse_prefix.2 h
  rwa [List.reverse_reverse] at this
theorem cutL_cutT {Z : List Nat} (h : cutL Z = Z) : cutL (cutT Z) = cutT Z := by
  have hp := cutT_pre Z
  generalize cutT Z = Y at *
  cases Y with
  | nil => rfl
  | cons a l =>
    obtain ⟨t, rfl⟩ := hp
    unfold cutL at h ⊢
    by_cases ha : a ≤ 32
    · exfalso
      rw [List.cons_append, List.dropWhile_cons, if_pos (by simpa using ha)] at h
      have h1 := (List.dropWhile_suffix (l := l ++ t) (fun r => decide (r ≤ 32))).length_le
      rw [h] at h1
      simp only [List.length_cons, List.length_append] at h1
      omega
    · rw [List.dropWhile_cons, if_neg (by simpa using ha)]
theorem stripN_stripN (rs : List Nat) : stripN (stripN rs) = stripN rs := by
  have hk : keepN (stripN rs) = stripN rs := by
    unfold stripN
    exact List.filter_eq_self.2 fun r hr => (List.mem_filter.1 hr).2
  rw [stripN_eq (stripN rs), hk, stripN_eq rs]
  rw [cutL_cutT (cutL_cutL _), cutT_cutT]
theorem strip_strip (v : List UInt8) : stripR (stripR v) = stripR v := by
  have e : runesN (stripR v) = stripN (runesN v) := by
    unfold stripR
    exact runesN_flat _ fun r hr => runesN_good v r (stripN_mem hr)
  unfold stripR at e ⊢
  rw [e, stripN_stripN]
theorem linkT_idem {l : List (List UInt8)} {rel : Bool} {v : List UInt8} (h : (linkT l rel v).2 = true) : linkT l rel (linkT l rel v).1 = ((linkT l rel v).1, true) := by
  unfold linkT at h ⊢
  split at h
  · rename_i ha
    rw [if_pos ha]
    have : allowR (stripR v) l rel = true := by
      unfold allowR at ha ⊢
      rw [strip_strip]
      exact ha
    dsimp only
    rw [if_pos this, strip_strip]
  · simp at h
end Go.Proofs.YtjpnhaaneaikbaaDoor

/-
  sievelaw13: right, of a list; the last laws of the kinds.
-/
set_option linter.unusedSimpArgs false
set_option linter.unusedVariables false
set_option linter.unnecessarySimpa false
namespace Go.Proofs.YtjpnhaaneaikbaaDoor
open Go Go.Sv Go.RowKit

def rightB (s : List UInt8) : Bool := decide (s = [104, 116, 116, 112]) || (decide (s = [104, 116, 116, 112, 115]) || (decide (s = [109, 97, 105, 108, 116, 111]) || (decide (s = [102, 116, 112]) || decide (s = [116, 101, 108]))))
def rightR (l : List (List UInt8)) : List (List UInt8) := l.filter rightB
theorem right_good {l : List (List UInt8)} : ∀ s ∈ rightR l, checkR s = 0 ∧ s.length ≤ 4611686018427387904 := by
  intro s hs
  have h := (List.mem_filter.1 hs).2
  unfold rightB at h
  simp only [Bool.or_eq_true, decide_eq_true_eq] at h
  rcases h with rfl | rfl | rfl | rfl | rfl <;> exact ⟨by decide, by decide⟩
theorem right_take {l : List (List UInt8)} {i : Nat} {x : List UInt8} (h : l[i]? = some x) : rightR (l.take (i + 1)) = rightR (l.take i) ++ (if rightB x = true then [x] else []) := by
  unfold rightR
  rw [List.take_add_one, h, List.filter_append]
  congr 1
  rw [Option.toList, List.filter_cons]
  split <;> rfl
theorem right_len (l : List (List UInt8)) : (rightR l).length ≤ l.length := List.length_filter_le _ _
set_option maxHeartbeats 1000000 in
theorem right_ok (l : List (List UInt8)) (sp : Option Addr) (sc : Nat) (hsc : l.length ≤ sc) (hn : l.length ≤ 1048576) (w : World) (hi : Im [] w sp (strs l)) :
    CallsR Tryd.prog 14 #[.slice sp l.length sc] w fun r w' => ∃ q c, r = .slice q (rightR l).length c ∧ Sep w w' [pRow 1 q (rightR l).length c (strs (rightR l))] := by
  have hS := (Sep.start w).nilRow 1
  have hsl := strs_len l
  refine enter (l := [.slice sp l.length sc]) Tryd.func14 rfl Tryd.ntmps14 (by kernel_rfl) rfl ?_
  refine sgo ?_
  refine wcloop (X := Nat × Option Addr × Nat) (fun x => [(3, .slice x.2.1 (rightR (l.take x.1)).length x.2.2), (6, .slice sp l.length sc), (7, int l.length), (8, int x.1)])
      (fun x wr => x.1 ≤ l.length ∧ Sep w wr [pRow 1 x.2.1 (rightR (l.take x.1)).length x.2.2 (strs (rightR (l.take x.1)))]) (fun x => l.length - x.1) (0, none, 0) ⟨rfl, rfl, rfl, rfl, trivial⟩ ⟨Nat.zero_le _, hS⟩ ?_
  clear hS
  rintro ⟨i, q, c⟩ wr ρ ⟨hil, hS⟩
  dsimp only at hil hS ⊢
  refine sgo ?_
  (show WC _ _ _ _ _ _ _; first | refine WC_dec rfl (fun hc => ?_) (fun hc => ?_) | refine WC_cond rfl (fun hc => ?_) (fun hc => ?_))
  · have hlt : i < l.length := by omega
    clear hc
    obtain ⟨x, hx⟩ : ∃ x, l[i]? = some x := ⟨_, List.getElem?_eq_getElem hlt⟩
    have hxv := strs_at hx
    have hps : ∃ q, sp = some q := hi.some (by rw [hsl]; omega)
    have hSg := (hi.frm hS.frm).sg
    have htk := right_take hx
    have hol : (rightR (l.take i)).length ≤ l.length := Nat.le_trans (right_len _) (by rw [List.length_take]; omega)
    have hrb : rightB x = (pkb (pkb (pkb (pkb (decide (x = [104, 116, 116, 112])) true (decide (x = [104, 116, 116, 112, 115]))) true (decide (x = [109, 97, 105, 108, 116, 111]))) true (decide (x = [102, 116, 112]))) true (decide (x = [116, 101, 108]))) := by
      unfold rightB
      simp only [pkb_or, Bool.or_assoc]
    refine sgo ?_
    refine WC_cond rfl (fun hc => ?_) (fun hc => ?_)
    · rw [hc] at hrb
      rw [hrb, if_pos rfl] at htk
      refine sgo ?_
      refine sb1s hS fun b2 w8 hS => ?_
      refine sgo ?_
      refine sapp hS 1 (hS.own 0 rfl).sg fun q' c' w9 hS => ?_
      replace hS := hS.tail
      rw [strs_snoc] at hS
      have hn : (rightR (l.take i)).length + 1 = (rightR (l.take (i + 1))).length := by rw [htk]; simp
      rw [← htk, hn] at hS
      rw [hn]
      refine sgo ?_
      exact ⟨(i + 1, q', c'), ⟨rfl, rfl, rfl, rfl, trivial⟩, ⟨by dsimp only; omega, hS⟩, by dsimp only; omega⟩
    · rw [hc] at hrb
      rw [hrb, if_neg Bool.false_ne_true, List.append_nil] at htk
      refine sgo ?_
      exact ⟨(i + 1, q, c), ⟨by dsimp only; rw [htk]; rfl, rfl, rfl, rfl, trivial⟩, ⟨by dsimp only; omega, by dsimp only; rw [htk]; exact hS⟩, by dsimp only; omega⟩
  · obtain rfl : i = l.length := by omega
    rw [List.take_length] at hS ⊢
    refine sgo ?_
    (first | refine fp1 (.inl rfl) rfl rfl ?_ | refine fp2 (.inl rfl) rfl rfl rfl ?_ | refine fp3 (.inl rfl) rfl rfl rfl rfl ?_ | refine fp0 (.inr rfl) rfl ?_ | refine fp0 (.inl rfl) rfl ?_ | refine fp1 (.inr rfl) rfl rfl ?_)
    exact ⟨q, c, rfl, hS⟩
end Go.Proofs.YtjpnhaaneaikbaaDoor

/-
  Package value: Tidy of every kind; what is tidied stays.
-/
set_option linter.unusedSimpArgs false
set_option linter.unusedVariables false
set_option linter.unnecessarySimpa false
namespace Go.Proofs.YtjpnhaaneaikbaaDoor
open Go Go.Sv Go.RowKit

theorem fields_flat : ∀ (rs cs : List Nat), (∀ r ∈ rs, Good r) → (fgo (cs.flatMap encR) (rs.flatMap encR)).length ≤ rs.length + (if cs = [] then 0 else 1)
  | [], cs, _ => by
    rw [List.flatMap_nil]
    unfold fgo
    cases cs with
    | nil => simp
    | cons a l => rw [if_neg (List.cons_ne_nil _ _)]; split <;> simp
  | r :: rs, cs, hr => by
    have hg := hr r (by simp)
    have hrs := fun y hy => hr y (List.mem_cons_of_mem r hy)
    have hl := encR_len4 r
    rw [List.flatMap_cons]
    have hpe := piece_enc r hg (rs.flatMap encR)
    have h0 : 0 < (encR r ++ rs.flatMap encR).length := by rw [List.length_append]; omega
    have hb := blk_piece h0 (right_of _ (by rw [hpe]))
    rw [hpe, List.take_left] at hb
    dsimp only at hb
    rw [Int.toNat_natCast] at hb
    rcases hb with ⟨hbl, hone, b, rest, hbr, hbb⟩ | ⟨_, hnb⟩
    · have hen : encR r = [b] := by
        cases he : encR r with
        | nil => rw [he] at hl; simp at hl
        | cons y t =>
          rw [he] at hbr hone
          simp only [List.length_cons] at hone
          have ht : t = [] := List.eq_nil_of_length_eq_zero (by omega)
          rw [List.cons_append] at hbr
          injection hbr with h1 h2
          rw [ht, h1]
      rw [hen]
      change (fgo (cs.flatMap encR) (b :: rs.flatMap encR)).length ≤ _
      rw [fgo, if_pos hbb]
      have hrec := fields_flat rs [] hrs
      rw [List.flatMap_nil, if_pos rfl] at hrec
      split
      · simp only [List.length_cons]
        exact Nat.le_trans hrec (by omega)
      · rename_i hne
        have hcs : cs ≠ [] := by rintro rfl; exact hne rfl
        rw [if_neg hcs]
        simp only [List.length_cons]
        omega
    · rw [fgo_nb _ _ _ hnb]
      have e : cs.flatMap encR ++ encR r = (cs ++ [r]).flatMap encR := by rw [List.flatMap_append]; simp
      rw [e]
      have hrec := fields_flat rs (cs ++ [r]) hrs
      rw [if_neg (by simp)] at hrec
      simp only [List.length_cons]
      exact Nat.le_trans hrec (Nat.le_add_right _ _)
theorem fields_clean (v : List UInt8) : (fieldsR (cleanR v)).length ≤ v.length := by
  have h := fields_flat ((runesN v).map plainR) [] (plainR_good_all v)
  rw [List.flatMap_nil, if_pos rfl, List.length_map] at h
  exact Nat.le_trans h (runesN_len v)
/-! ## all kinds -/
def tkR (k : Nat) (l ws : List (List UInt8)) (rel : Bool) (v : List UInt8) : List UInt8 × Bool :=
  match k with
  | 0 => (v, true)
  | 1 => (toksR v, true)
  | 2 => nameT v
  | 3 => numT v
  | 4 => lenT v
  | 5 => linkT l rel v
  | 6 => langT v
  | 7 => oneT ws v
  | _ => ([], true)
theorem plain_nil : PlainT [] := ⟨[], by simp, rfl⟩
theorem digits_plain {t : List UInt8} (h : ∀ c ∈ t, digitR c.toNat = true) : PlainT t :=
  plain_ascii fun c hc => by have := digit_rng (h c hc); omega
theorem lenT_len (v : List UInt8) : (lenT v).1.length ≤ v.length + 1 := by
  have h1 := numT_len (Lib.trimSuffix v [37])
  have h2 := trim_len v [37]
  unfold lenT
  split
  · dsimp only
    split
    · rw [List.length_append, List.length_singleton]; omega
    · omega
  · exact Nat.zero_le _
theorem tk_stays {k : Nat} {l ws : List (List UInt8)} {rel : Bool} {v : List UInt8} (hv : PlainT v) (h : (tkR k l ws rel v).2 = true) :
    PlainT (tkR k l ws rel v).1 ∧ tkR k l ws rel (tkR k l ws rel v).1 = ((tkR k l ws rel v).1, true) ∧ (tkR k l ws rel v).1.length ≤ 4 * v.length + 1 := by
  match k, h with
  | 0, h => exact ⟨hv, rfl, show v.length ≤ _ by omega⟩
  | 1, h =>
    have := toksR_len v
    exact ⟨toks_plain hv, show (toksR (toksR v), true) = _ by rw [toks_idem]; rfl, show (toksR v).length ≤ _ by omega⟩
  | 2, h =>
    change (nameT v).2 = true at h
    have e : nameT v = (v, true) := by
      unfold nameT at h ⊢
      split at h
      · rename_i hh; rw [if_pos hh]
      · cases h
    change PlainT (nameT v).1 ∧ nameT (nameT v).1 = ((nameT v).1, true) ∧ (nameT v).1.length ≤ _
    rw [e]
    exact ⟨hv, e, by dsimp only; omega⟩
  | 3, h =>
    change (numT v).2 = true at h
    have := numT_len v
    exact ⟨digits_plain (numT_plain h), numT_idem h, show (numT v).1.length ≤ _ by omega⟩
  | 4, h =>
    change (lenT v).2 = true at h
    have := lenT_len v
    exact ⟨plain_ascii (lenT_plain h), lenT_idem h, show (lenT v).1.length ≤ _ by omega⟩
  | 5, h =>
    change (linkT l rel v).2 = true at h
    have := stripR_len v
    refine ⟨?_, linkT_idem h, ?_⟩
    · change PlainT (linkT l rel v).1
      unfold linkT
      split
      · exact strip_plain hv
      · exact plain_nil
    · change (linkT l rel v).1.length ≤ _
      unfold linkT
      split
      · dsimp only; omega
      · exact Nat.zero_le _
  | 6, h =>
    change (langT v).2 = true at h
    have e : langT v = (v, true) := by
      unfold langT at h ⊢
      split at h
      · rename_i hh; rw [if_pos hh]
      · cases h
    change PlainT (langT v).1 ∧ langT (langT v).1 = ((langT v).1, true) ∧ (langT v).1.length ≤ _
    rw [e]
    exact ⟨hv, e, by dsimp only; omega⟩
  | 7, h =>
    change (oneT ws v).2 = true at h
    have e : oneT ws v = (lowR v, true) ∧ oneT ws (lowR v) = (lowR v, true) := by
      unfold oneT at h ⊢
      split at h
      · rename_i hh
        rw [low_low, if_pos hh]
        exact ⟨rfl, rfl⟩
      · cases h
    change PlainT (oneT ws v).1 ∧ oneT ws (oneT ws v).1 = ((oneT ws v).1, true) ∧ (oneT ws v).1.length ≤ _
    rw [e.1]
    exact ⟨low_plain hv, e.2, by dsimp only; rw [lowR_len]; omega⟩
  | _ + 8, h => exact ⟨plain_nil, rfl, Nat.zero_le _⟩
/-! ## Tidy -/
theorem takToks_ok (nm : List UInt8) (k : Int) (wp : Option Addr) (wn wc : Nat) (sp : Option Addr) (sn sc : Nat) (rel : Bool) (v : List UInt8) (hv : validR v = true) (hb : v.length ≤ 100000000) (hF : (fieldsR v).length ≤ 1048577) (w : World) :
    PureC Tryd.prog 39 #[.agg ⟨takV nm k wp wn wc sp sn sc rel⟩, str v] w (.tuple #[str (toksR v), .bool true]) := by
  have hl := toksR_len v
  refine enter (l := [.agg ⟨takV nm k wp wn wc sp sn sc rel⟩, str v]) Tryd.func39 rfl Tryd.ntmps39 (by kernel_rfl) rfl ?_
  have hS := Sep.start w
  refine sgo ?_
  refine sbox hS fun b2 w1 hS => ?_
  refine sgo ?_
  refine wlcall (words_ok v hv (by omega) _) ?_
  rintro _ w2 ⟨q, c, rfl, hS2⟩
  have hf2 := hS.frm.trans hS2.frm
  have hcap := (hS2.row 0 rfl).le_cap
  refine sgo ?_
  refine wlpure (join_ok (fieldsR v) [32] q c hcap.1 hF (by decide) (by unfold toksR at hl; omega) _ (hS2.im 0 rfl)) fun w3 hf3 => ?_
  refine sgo ?_
  have hf := hf2.trans hf3
  clear hf2 hf3
  (first | refine fp1 (.inl rfl) rfl rfl ?_ | refine fp2 (.inl rfl) rfl rfl rfl ?_ | refine fp3 (.inl rfl) rfl rfl rfl rfl ?_ | refine fp0 (.inr rfl) rfl ?_ | refine fp0 (.inl rfl) rfl ?_ | refine fp1 (.inr rfl) rfl rfl ?_); refine ⟨?_, by (first | exact Frm.refl _ | assumption | exact Go.Sv.Sep.frm (by assumption) | (refine Frm.trans ?_ (by assumption); first | exact Frm.refl _ | assumption))⟩; (try simp only [realB, rv_true, Nat.reduceBEq, cond_true, cond_false, entG, real_lif, updGL])
  all_goals rfl
theorem tidyAll_ok (nm : List UInt8) (ws l : List (List UInt8)) (wp : Option Addr) (wc : Nat) (sp : Option Addr) (sc : Nat) (rel : Bool) (hwc : ws.length ≤ wc) (hsc : l.length ≤ sc)
    (hws : ∀ x ∈ ws, x.length ≤ 1073741824) (hwn : ws.length ≤ 1073741824) (hln : l.length ≤ 1048576) (hl : ∀ s ∈ l, checkR s = 0 ∧ s.length ≤ 4611686018427387904)
    (v : List UInt8) (hb : v.length ≤ 20000000) (k : Nat) (hk : k < 9) (hF : k = 1 → (fieldsR (cleanR v)).length ≤ 1048577) (w : World) (hN : Never w) (hM : MaxC w) (hi : Im [] w wp (strs ws)) (hj : Im [] w sp (strs l)) :
    PureC Tryd.prog 15 #[.agg #[str nm, int k, .slice wp ws.length wc], .slice sp l.length sc, .bool rel, str v] w (tidyV (tkR k l ws rel (cleanR v))) := by
  have hcl := cleanR_len v
  match k, hk with
  | 0, _ => exact tidy_ok nm 0 (by decide) wp ws.length wc sp l.length sc rel v hb 38 rfl (tkR 0 l ws rel (cleanR v)) w fun w' hf => takAny_ok nm (0 : Nat) wp ws.length wc sp l.length sc rel (cleanR v) w'
  | 1, _ => exact tidy_ok nm 1 (by decide) wp ws.length wc sp l.length sc rel v hb 39 rfl (tkR 1 l ws rel (cleanR v)) w fun w' hf => takToks_ok nm (1 : Nat) wp ws.length wc sp l.length sc rel (cleanR v) (cleanR_valid v) (by omega) (hF rfl) w'
  | 2, _ => exact tidy_ok nm 2 (by decide) wp ws.length wc sp l.length sc rel v hb 40 rfl (tkR 2 l ws rel (cleanR v)) w fun w' hf => takName_ok nm (2 : Nat) wp ws.length wc sp l.length sc rel (cleanR v) (by omega) w'
  | 3, _ => exact tidy_ok nm 3 (by decide) wp ws.length wc sp l.length sc rel v hb 41 rfl (tkR 3 l ws rel (cleanR v)) w fun w' hf => takNumber_ok nm (3 : Nat) wp ws.length wc sp l.length sc rel (cleanR v) (by omega) w'
  | 4, _ => exact tidy_ok nm 4 (by decide) wp ws.length wc sp l.length sc rel v hb 42 rfl (tkR 4 l ws rel (cleanR v)) w fun w' hf => takLength_ok nm (4 : Nat) wp ws.length wc sp l.length sc rel (cleanR v) (by omega) w'
  | 5, _ => exact tidy_ok nm 5 (by decide) wp ws.length wc sp l.length sc rel v hb 43 rfl (tkR 5 l ws rel (cleanR v)) w fun w' hf => takLink_ok nm (5 : Nat) wp ws.length wc sp l sc hsc rel (cleanR v) (by omega) hln hl w' (hN.frm hf) (hj.frm hf)
  | 6, _ => exact tidy_ok nm 6 (by decide) wp ws.length wc sp l.length sc rel v hb 44 rfl (tkR 6 l ws rel (cleanR v)) w fun w' hf => takLang_ok nm (6 : Nat) wp ws.length wc sp l.length sc rel (cleanR v) (by omega) w' (hM.frm hf)
  | 7, _ => exact tidy_ok nm 7 (by decide) wp ws.length wc sp l.length sc rel v hb 45 rfl (tkR 7 l ws rel (cleanR v)) w fun w' hf => takOneOf_ok nm (7 : Nat) wp ws wc sp l.length sc rel (cleanR v) (by omega) hws hwn hwc w' (hi.frm hf)
  | 8, _ => exact tidy_ok nm 8 (by decide) wp ws.length wc sp l.length sc rel v hb 46 rfl (tkR 8 l ws rel (cleanR v)) w fun w' hf => takFlag_ok nm (8 : Nat) wp ws.length wc sp l.length sc rel (cleanR v) w'
set_option maxHeartbeats 1000000 in
theorem tidyOut_ok (nm : List UInt8) (k : Int) (hk : k < 0 ∨ 9 ≤ k) (wp : Option Addr) (wn wc : Nat) (sp : Option Addr) (sn sc : Nat) (rel : Bool) (v : List UInt8) (w : World) :
    PureC Tryd.prog 15 #[.agg #[str nm, int k, .slice wp wn wc], .slice sp sn sc, .bool rel, str v] w (.tuple #[str [], .bool false, int 130]) := by
  have hS := Sep.start w
  refine enter (l := [.agg #[str nm, int k, .slice wp wn wc], .slice sp sn sc, .bool rel, str v]) Tryd.func15 rfl Tryd.ntmps15 (by kernel_rfl) rfl ?_
  refine sgo ?_
  refine sbox hS fun b4 w1 hS => ?_
  replace hS : Sep w w1 [pOwn b4 [str nm, int k, .slice wp wn wc]] := hS
  refine sgo ?_
  refine wlcall (kinds_ok _) ?_
  rintro _ w2 ⟨hf2, rfl⟩
  replace hS := hS.grow hf2
  refine sgo ?_
  refine salloc hS fun b11 w3 hS => ?_
  refine sgo ?_
  refine ssta (vs := kindsV) hS 0 (fun w4 hS => ?_)
  obtain ⟨L, hL, hL9, hS⟩ : ∃ L : List Value, kindsV = L ∧ L.length = 9 ∧ Sep w w4 [pOwn b11 L, pOwn b4 [str nm, int k, .slice wp wn wc]] := ⟨_, rfl, rfl, hS⟩
  clear hL
  refine sgo ?_
  refine wcyes ?_ (ht := by simp [pkb]; omega)
  refine sgo ?_
  have hf := hS.frm
  clear hS
  (first | refine fp1 (.inl rfl) rfl rfl ?_ | refine fp2 (.inl rfl) rfl rfl rfl ?_ | refine fp3 (.inl rfl) rfl rfl rfl rfl ?_ | refine fp0 (.inr rfl) rfl ?_ | refine fp0 (.inl rfl) rfl ?_ | refine fp1 (.inr rfl) rfl rfl ?_); refine ⟨?_, by (first | exact Frm.refl _ | assumption | exact Go.Sv.Sep.frm (by assumption) | (refine Frm.trans ?_ (by assumption); first | exact Frm.refl _ | assumption))⟩; (try simp only [realB, rv_true, Nat.reduceBEq, cond_true, cond_false, entG, real_lif, updGL])
  all_goals rfl
end Go.Proofs.YtjpnhaaneaikbaaDoor

/-
  Loops over functions, with memory in pieces.
-/
set_option linter.unusedSimpArgs false
set_option linter.unusedVariables false
set_option linter.unnecessarySimpa false
namespace Go.Sv
open Go Go.RowKit
def pLoop (l : Nat) (r : Loop) : Plot where
  foot := [l]
  ok w := LoopAt w l r
  view := (none, [])
  loc _ _ h hb := (hb l (by simp)).trans h
  lt _ h x hx := by rw [List.mem_singleton.1 hx]; exact h.lt
  sg _ _ := .inl rfl
def pDef (D : Nat) : Plot where
  foot := [D]
  ok w := NoDef w D
  view := (none, [])
  loc _ _ h hb := (hb D (by simp)).trans h
  lt _ h x hx := by rw [List.mem_singleton.1 hx]; exact h.lt
  sg _ _ := .inl rfl
section
variable {w0 w w' : World} {cs : List Plot} {l D i : Nat} {r r' : Loop}
theorem Sep.loop (h : Sep w0 w cs) (hf : Frm w w') (hL : LoopAt w' l r) (hN : NoDef w' D) (hl : w.heap.size ≤ l) (hD : w.heap.size ≤ D) (hne : l ≠ D) : Sep w0 w' (pLoop l r :: pDef D :: cs) := by
  refine h.seq (ds := [pLoop l r, pDef D]) ⟨hf, ?_, ?_, ?_⟩
  · intro c hc
    rcases List.mem_cons.1 hc with rfl | hc
    · exact hL
    · rw [List.mem_singleton.1 hc]; exact hN
  · intro c hc x hx
    rcases List.mem_cons.1 hc with rfl | hc
    · rw [List.mem_singleton.1 hx]; exact hl
    · rw [List.mem_singleton.1 hc] at hx; rw [List.mem_singleton.1 hx]; exact hD
  · rw [List.pairwise_cons]
    refine ⟨fun b hb x hx hx' => ?_, List.pairwise_singleton _ _⟩
    rw [List.mem_singleton.1 hb] at hx'
    rw [List.mem_singleton.1 hx] at hx'
    exact hne (List.mem_singleton.1 hx')
/-- a piece that is given away -/
theorem Sep.lose {c : Plot} (h : Sep w0 w (c :: cs)) (hl : Le c.foot w w') : Sep w0 w' cs := by
  have hp := h.apart
  rw [List.pairwise_cons] at hp
  exact h.tail.le hl (fun d hd x hx hm => hp.1 d hd x hm hx) (h.low _ List.mem_cons_self)
theorem Sep.undef (h : Sep w0 w (pDef D :: cs)) : Sep w0 (w.putObj D (.deferred none)) cs := h.lose (le_putObj w D _)
end
end Go.Sv

/-
  General steps: what is skipped, what is written, loops over functions (out of several texts).
-/
set_option linter.unusedSimpArgs false
set_option linter.unusedVariables false
set_option linter.unnecessarySimpa false
namespace Go.Sv
open Go Go.RowKit
/-- a guarded operation whose guard says no -/
theorem wlskipg {P : Program} {n : Nat} {ds : Ctx} {ops : Array Oper} {Q : Exit → Ctx → Env → World → Prop} {rest : List Oper} {σ : GE} {w : World} {d : Nat} {op : Op} {ty : TypeId} {pos : String} {af : Array Edge} {j dj : Nat} {want b c : Bool} (v : Value)
    (h : WL P n ds ops Q rest (real (updG σ d ⟨v, false⟩)) w)
    (hj : (ops[j]?).bind (·.dst) = some dj := by rfl) (hσ : σ dj = ⟨.bool c, b⟩ := by rfl) (hgt : (b && (c == want)) = false) :
    WL P n ds ops Q (⟨some d, op, ty, pos, af, some (j, want)⟩ :: rest) (real σ) w := by
  have hw := wanted_real (ops := ops) (o := ⟨some d, op, ty, pos, af, some (j, want)⟩) rfl hj hσ
  rw [hgt] at hw
  refine WL_skip hw ?_
  rw [← real_upd] at h
  exact h
/-- all blocks of a list as they were -/
def pKeep (w1 : World) (F : List Nat) : Plot where
  foot := F.filter fun b => decide (b < w1.heap.size)
  ok w := ∀ b ∈ F, b < w1.heap.size → w.heap[b]? = w1.heap[b]?
  view := (none, [])
  loc _ _ h hb := fun b hF hlt => (hb b (List.mem_filter.2 ⟨hF, by simpa using hlt⟩)).trans (h b hF hlt)
  lt w h x hx := by
    obtain ⟨h1, h2⟩ := List.mem_filter.1 hx
    have h3 : x < w1.heap.size := by simpa using h2
    have h4 := h x h1 h3
    rw [Array.getElem?_eq_getElem h3] at h4
    exact (Array.getElem?_eq_some_iff.1 h4).1
  sg _ _ := .inl rfl
def feet (cs : List Plot) : List Nat := cs.flatMap Plot.foot
/-- the blocks that belong to no piece -/
def others (w0 w1 : World) (cs : List Plot) : List Nat := (List.range w1.heap.size).filter fun x => decide (w0.heap.size ≤ x) && !(decide (x ∈ feet cs))
section
variable {w0 w1 w2 w w' : World} {cs ds : List Plot} {B : Nat}
theorem Sep.keep (h : Sep w0 w1 cs) : Sep w0 w1 (pKeep w1 (others w0 w1 cs) :: cs) := by
  refine ⟨h.frm, ?_, ?_, ?_⟩
  · intro c hc
    rcases List.mem_cons.1 hc with rfl | hc
    · exact fun _ _ _ => rfl
    · exact h.ok c hc
  · intro c hc x hx
    rcases List.mem_cons.1 hc with rfl | hc
    · have := (List.mem_filter.1 (List.mem_filter.1 hx).1).2
      simp only [Bool.and_eq_true, decide_eq_true_eq] at this
      exact this.1
    · exact h.low c hc x hx
  · rw [List.pairwise_cons]
    refine ⟨fun c hc x hx hx' => ?_, h.apart⟩
    have := (List.mem_filter.1 (List.mem_filter.1 hx).1).2
    simp only [Bool.and_eq_true, Bool.not_eq_true', decide_eq_false_iff_not] at this
    exact this.2 (List.mem_flatMap.2 ⟨c, hc, hx'⟩)
theorem Sep.same (h : Sep w0 w1 cs) (hs : Same B w1 w2) (h0 : w0.heap.size ≤ B) (hB : ∀ x ∈ feet cs, x < B) : Sep w0 w2 cs :=
  ⟨⟨hs.os.trans h.frm.os, hs.tape.trans h.frm.tape, hs.output.trans h.frm.output, Nat.le_trans h0 hs.size, fun k hk => (hs.block k (Nat.lt_of_lt_of_le hk h0)).trans (h.frm.block k hk)⟩,
    fun c hc => c.loc w1 w2 (h.ok c hc) fun x hx => hs.block x (hB x (List.mem_flatMap.2 ⟨c, hc, hx⟩)), h.low, h.apart⟩
theorem Same.mono {B B' : Nat} (h : Same B w w') (hb : B' ≤ B) : Same B' w w' := ⟨h.os, h.tape, h.output, Nat.le_trans hb h.size, fun k hk => h.block k (Nat.lt_of_lt_of_le hk hb)⟩
end
def colls (Ds : List Nat) : List Deferred := Ds.map fun D => { target := .collected D, args := #[] }
end Go.Sv

/-
  General steps, further.
-/
set_option linter.unusedSimpArgs false
set_option linter.unusedVariables false
set_option linter.unnecessarySimpa false
namespace Go.Sv
open Go Go.RowKit
/-- a guarded call, whose guard is known to say yes -/
theorem wlcallgt {P : Program} {n : Nat} {ds : Ctx} {ops : Array Oper} {Q : Exit → Ctx → Env → World → Prop} {rest : List Oper} {σ : GE} {w : World} {d : Nat} {ty : TypeId} {pos : String} {af : Array Edge} {j dj : Nat} {want b c : Bool} {f : FuncId} [hf : Fnc P f] {args : List Operand} {ats : Array TypeId} {vals : List Value} {R : Value → World → Prop}
    (hc : CallsR P f vals.toArray w R) (h : ∀ v w', R v w' → WL P n ds ops Q rest (real (updG σ d ⟨v, true⟩)) w') (hgt : (b && (c == want)) = true)
    (hj : (ops[j]?).bind (·.dst) = some dj := by rfl) (hσ : σ dj = ⟨.bool c, b⟩ := by rfl)
    (ha : (b && (c == want)) = true → args.map (evl (real σ)) = vals := by
    intro hgd
    first
    | exact Go.Sv.am1 (evG hgd)
    | exact Go.Sv.am2 (evG hgd) (evG hgd)
    | exact Go.Sv.am3 (evG hgd) (evG hgd) (evG hgd)) :
    WL P n ds ops Q (⟨some d, .call ⟨.value (.func f), args.toArray, ats⟩, ty, pos, af, some (j, want)⟩ :: rest) (real σ) w := by
  have hw := wanted_real (ops := ops) (o := ⟨some d, .call ⟨.value (.func f), args.toArray, ats⟩, ty, pos, af, some (j, want)⟩) rfl hj hσ
  rw [hgt] at hw
  refine WL_call_want (R := R) hw (by rw [← ha hgt] at hc; simpa using hc) fun v w' hr => ?_
  have := h v w' hr
  rw [← real_upd] at this
  exact this
end Go.Sv

/-
  The law ValueStays.
-/
set_option linter.unusedSimpArgs false
set_option linter.unusedVariables false
set_option linter.unnecessarySimpa false
namespace Go.Proofs.YtjpnhaaneaikbaaDoor
open Go Go.Sv Go.RowKit

set_option maxHeartbeats 2000000 in
theorem valueStays_ok (nm : List UInt8) (ws l0 : List (List UInt8)) (wp : Option Addr) (wc : Nat) (sp : Option Addr) (sc : Nat) (rel : Bool) (hwc : ws.length ≤ wc) (hsc : l0.length ≤ sc)
    (hws : ∀ x ∈ ws, x.length ≤ 1073741824) (hwn : ws.length ≤ 1073741824) (hln : l0.length ≤ 1048576)
    (v : List UInt8) (hb : v.length ≤ 1048576) (k : Int) (w : World) (hN : Never w) (hM : MaxC w) (hi : Im [] w wp (strs ws)) (hj : Im [] w sp (strs l0)) :
    PureC Tryd.prog 5 #[.agg #[str nm, int k, .slice wp ws.length wc], .agg #[.slice sp l0.length sc, .bool rel], str v] w (.bool true) := by
  have hcl := cleanR_len v
  have hS := Sep.start w
  have hR := fun w1 (hf : Frm w w1) => right_ok l0 sp sc hsc hln w1 (hj.frm hf)
  have hrl := right_len l0
  have hrg : ∀ s ∈ rightR l0, checkR s = 0 ∧ s.length ≤ 4611686018427387904 := right_good
  generalize rightR l0 = l at *
  obtain ⟨t, ok, e, hT, hfin⟩ : ∃ (t : List UInt8) (ok : Bool) (e : Nat), (∀ q c w1, l.length ≤ c → Frm w w1 → Im [] w1 q (strs l) → PureC Tryd.prog 15 #[.agg #[str nm, int k, .slice wp ws.length wc], .slice q l.length c, .bool rel, str v] w1 (.tuple #[str t, .bool ok, int e])) ∧
      ((ok = false ∧ t = []) ∨ (ok = true ∧ e = 0 ∧ PlainT t ∧ t.length ≤ 20000000 ∧ (∀ q c w1, l.length ≤ c → Frm w w1 → Im [] w1 q (strs l) → PureC Tryd.prog 15 #[.agg #[str nm, int k, .slice wp ws.length wc], .slice q l.length c, .bool rel, str t] w1 (.tuple #[str t, .bool true, int 0])) ∧
        (k = 1 → fieldsR (cleanR t) = fieldsR (cleanR v)))) := by
    by_cases hk : k < 0 ∨ 9 ≤ k
    · exact ⟨[], false, 130, fun q c w1 _ _ _ => tidyOut_ok nm k hk wp ws.length wc q l.length c rel v w1, .inl ⟨rfl, rfl⟩⟩
    · obtain ⟨n, rfl⟩ : ∃ n : Nat, k = n := ⟨k.toNat, by omega⟩
      have hn : n < 9 := by omega
      have hfc := fields_clean v
      have h1 := fun (q : Option Addr) (c : Nat) (w1 : World) (hlc : l.length ≤ c) (hf : Frm w w1) (hq : Im [] w1 q (strs l)) =>
        tidyAll_ok nm ws l wp wc q c rel hwc hlc hws hwn (by omega) hrg v (by omega) n hn (fun _ => by omega) w1 (hN.frm hf) (hM.frm hf) (hi.frm hf) hq
      cases hr : (tkR n l ws rel (cleanR v)).2 with
      | false =>
        refine ⟨[], false, 0, fun q c w1 hlc hf hq => ?_, .inl ⟨rfl, rfl⟩⟩
        have := h1 q c w1 hlc hf hq
        unfold tidyV at this
        rw [hr] at this
        exact this
      | true =>
        obtain ⟨hp, hid, hlen⟩ := tk_stays (clean_plainT v) hr
        obtain ⟨t, ht⟩ : ∃ t, (tkR n l ws rel (cleanR v)).1 = t := ⟨_, rfl⟩
        rw [ht] at hp hid hlen
        have hct := plain_clean hp
        have htf : (n : Int) = 1 → fieldsR (cleanR t) = fieldsR (cleanR v) := by
          intro h1
          obtain rfl : n = 1 := by omega
          rw [hct, ← ht]
          exact toks_toks _
        refine ⟨t, true, 0, fun q c w1 hlc hf hq => ?_, .inr ⟨rfl, rfl, hp, by omega, fun q c w1 hlc hf hq => ?_, htf⟩⟩
        · have := h1 q c w1 hlc hf hq
          unfold tidyV at this
          rw [hr, if_pos rfl, ht] at this
          exact this
        · have hF : n = 1 → (fieldsR (cleanR t)).length ≤ 1048577 := by
            intro h1
            rw [htf (by omega)]; omega
          have := tidyAll_ok nm ws l wp wc q c rel hwc hlc hws hwn (by omega) hrg t (by omega) n hn hF w1 (hN.frm hf) (hM.frm hf) (hi.frm hf) hq
          unfold tidyV at this
          rw [hct, hid, if_pos rfl] at this
          exact this
  clear hi hws hrg hN hM
  refine enter (l := [.agg #[str nm, int k, .slice wp ws.length wc], .agg #[.slice sp l0.length sc, .bool rel], str v]) Tryd.func5 rfl Tryd.ntmps5 (by kernel_rfl) rfl ?_
  refine sgo ?_
  refine sbox hS fun b3 w1 hS => ?_
  replace hS : Sep w w1 [pOwn b3 [str nm, int k, .slice wp ws.length wc]] := hS
  refine sgo ?_
  refine sbox hS fun b4 w2 hS => ?_
  replace hS : Sep w w2 [pOwn b4 [.slice sp l0.length sc, .bool rel], pOwn b3 [str nm, int k, .slice wp ws.length wc]] := hS
  refine sgo ?_
  refine wlcall (hR _ hS.frm) ?_
  rintro _ w3 ⟨q, c, rfl, hS3⟩
  have hcap := (hS3.row 0 rfl).le_cap
  replace hS := hS.seq hS3
  refine sgo ?_
  refine wlpure (hT q c _ hcap.1 hS.frm (hS.im 0 rfl)) fun w4 hf4 => ?_
  replace hS := hS.grow hf4
  refine sgo ?_
  rcases hfin with ⟨rfl, rfl⟩ | ⟨rfl, rfl, hp, htl, hT2, htf⟩
  · refine wcyes ?_ (ht := by simp [pkb])
    refine sgo ?_
    refine wlcallgp (vals := []) (fun _ => lives13_ok _) (fun w5 hf5 => ?_) (ha := fun _ => rfl)
    refine sgo ?_
    have hf := hS.frm.trans hf5
    clear hf5 hf4 hS
    (first | refine fp1 (.inl rfl) rfl rfl ?_ | refine fp2 (.inl rfl) rfl rfl rfl ?_ | refine fp3 (.inl rfl) rfl rfl rfl rfl ?_ | refine fp0 (.inr rfl) rfl ?_ | refine fp0 (.inl rfl) rfl ?_ | refine fp1 (.inr rfl) rfl rfl ?_); refine ⟨?_, by (first | exact Frm.refl _ | assumption | exact Go.Sv.Sep.frm (by assumption) | (refine Frm.trans ?_ (by assumption); first | exact Frm.refl _ | assumption))⟩; (try simp only [realB, rv_true, Nat.reduceBEq, cond_true, cond_false, entG, real_lif, updGL])
    all_goals (simp [pkb])
  refine wcno ?_ (ht := by simp [pkb])
  refine sgo ?_
  refine wlpure (hT2 q c _ hcap.1 hS.frm (hS.im 0 rfl)) fun w5 hf5 => ?_
  replace hS := hS.grow hf5
  refine sgo ?_
  refine wls2bg (s := t) (by omega) fun q2 cc w6 hI hf6 => ?_
  replace hS := hS.grow hf6
  refine sgo ?_
  refine wlcallgp (vals := [.slice (pb q2) t.length cc]) (fun hg => refValid_ok t (pb q2) t.length cc rfl (hI hg).1 (by omega) w6 (hI hg).2.2) fun w7 hf7 => ?_
  replace hS := hS.grow hf7
  clear hI
  rw [plain_valid hp]
  refine sgo ?_
  refine wlcallgp (vals := [str t]) (fun hg => refClean_ok t (by omega) _) fun w8 hf8 => ?_
  replace hS := hS.grow hf8
  rw [plain_clean hp]
  refine sgo ?_
  refine wcno ?_ (ht := by simp [pkb])
  clear hf4 hf5 hf6 hf7 hf8
  have hSb : Sep w w8 ([pRow 1 q l.length c (strs l), pOwn b4 [.slice sp l0.length sc, .bool rel], pOwn b3 [str nm, int k, .slice wp ws.length wc]]) := hS
  replace hS := hSb
  clear hSb
  refine sgo ?_
  by_cases hk : k = 1
  · subst hk
    have htf1 := htf rfl
    have hFl := fields_len (cleanR v)
    have htk := fun w1 cs (hS : Sep w w1 cs) => tokens_ok t htl w w1 cs hS
    have hvk := fun w1 cs (hS : Sep w w1 cs) => tokens_ok v (by omega) w w1 cs hS
    rw [htf1] at htk
    generalize fieldsR (cleanR v) = F at *
    refine wlcallgt (vals := [str t]) (htk _ _ hS) ?_ rfl
    clear hS
    rintro _ w9 ⟨q3, c3, rfl, hS⟩
    refine sgo ?_
    refine wlcallgt (vals := [str v]) (hvk _ _ hS) ?_ rfl
    clear hS
    rintro _ w10 ⟨q4, c4, rfl, hS⟩
    refine sgo ?_
    refine wlcallgp (vals := [.slice q3 F.length c3, .slice q4 F.length c4]) (fun hg => same13_ok F F q3 q4 c3 c4 (by omega) (by omega) _ (hS.im 1 rfl) (hS.im 0 rfl)) fun w11 hf11 => ?_
    replace hS := hS.grow hf11
    refine sgo ?_
    refine wlcallgp (vals := []) (fun _ => lives13_ok _) (fun w12 hf12 => ?_) (ha := fun _ => rfl)
    refine sgo ?_
    have hf := hS.frm.trans hf12
    clear hf11 hf12 hS
    (first | refine fp1 (.inl rfl) rfl rfl ?_ | refine fp2 (.inl rfl) rfl rfl rfl ?_ | refine fp3 (.inl rfl) rfl rfl rfl rfl ?_ | refine fp0 (.inr rfl) rfl ?_ | refine fp0 (.inl rfl) rfl ?_ | refine fp1 (.inr rfl) rfl rfl ?_); refine ⟨?_, by (first | exact Frm.refl _ | assumption | exact Go.Sv.Sep.frm (by assumption) | (refine Frm.trans ?_ (by assumption); first | exact Frm.refl _ | assumption))⟩; (try simp only [realB, rv_true, Nat.reduceBEq, cond_true, cond_false, entG, real_lif, updGL])
    all_goals (simp [pkb])
  · have hd : (true && (decide (k ≠ 1) == false)) = false := by simp [hk]
    refine wlskipg (str []) ?_ rfl rfl hd
    refine sgo ?_
    refine wlskipg (str []) ?_ rfl rfl hd
    refine sgo ?_
    refine wlskipg (.bool true) ?_ rfl rfl hd
    refine sgo ?_
    refine wlcallgp (vals := []) (fun _ => lives13_ok _) (fun w12 hf12 => ?_) (ha := fun _ => rfl)
    refine sgo ?_
    have hf := hS.frm.trans hf12
    clear hf12 hS
    (first | refine fp1 (.inl rfl) rfl rfl ?_ | refine fp2 (.inl rfl) rfl rfl rfl ?_ | refine fp3 (.inl rfl) rfl rfl rfl rfl ?_ | refine fp0 (.inr rfl) rfl ?_ | refine fp0 (.inl rfl) rfl ?_ | refine fp1 (.inr rfl) rfl rfl ?_); refine ⟨?_, by (first | exact Frm.refl _ | assumption | exact Go.Sv.Sep.frm (by assumption) | (refine Frm.trans ?_ (by assumption); first | exact Frm.refl _ | assumption))⟩; (try simp only [realB, rv_true, Nat.reduceBEq, cond_true, cond_false, entG, real_lif, updGL])
    all_goals (simp [pkb, hk])
end Go.Proofs.YtjpnhaaneaikbaaDoor

/-
  From a frame to what a row asks behind the call: nothing that was there has turned (new blocks may be frozen).
-/
set_option linter.unusedSimpArgs false
set_option linter.unusedVariables false
set_option linter.unnecessarySimpa false
namespace Go.ChangeShapes
section
variable {H : Type} {enc : TypeId × Value → H} {P : Program}
theorem post_frm {f : Func} {s : ChangeSpec} {apart fresh handsOn again : Bool} {W W' : World} {args : Array Value} {v : Value} {ds gs : List (DataW H)} {before pa pv : List MemPlace}
    (hW : DataW.Whole enc P f.params.toList s.vars apart W args.toList ds gs before)
    (hres : ∀ (b : Nat) (sp : Nat → Bool) (hd : Bool), DataW.TrodAll enc P W' b sp hd f.resultTypes.toList (v.resultList f.resultTypes.size) (s.fn H (ds ++ gs)).results [])
    (hargs : ∀ sp : Nat → Bool, (∀ p ∈ before, sp p.block = true) → DataW.TrodAll enc P W' 0 sp true f.params.toList args.toList (s.fn H (ds ++ gs)).args pa)
    (hvars : ∀ sp : Nat → Bool, (∀ p ∈ before, sp p.block = true) → DataW.TrodVars enc P W' sp s.vars (s.fn H (ds ++ gs)).vars pv)
    (hps : before = pa ++ pv) (hk : Sv.Frm W W')
    (hok : ∀ (j : Nat) (t : TypeId) (r : Value), f.resultTypes[j]? = some t → (v.resultList f.resultTypes.size)[j]? = some r → Value.okWide P W' .any 0 t r) :
    s.post enc P f apart fresh handsOn again W args v W' := by
  have hold : ∀ p ∈ before, (fun b => decide (b < W.heap.size)) p.block = true := fun p hp => by simpa using hW.lt p hp
  refine ⟨ds, gs, before, [], pa, pv, hW, hres _ _ _, hargs _ hold, hvars _ hold, World.keptBut_mono (fun p hp => ⟨hp, ?_⟩) (RowKit.Below.frame hk (· ∈ before)), fun _ => ?_⟩
  · rw [hps, List.mem_append] at hp
    exact Or.inr hp
  · have hlt := hW.lt
    obtain ⟨_, _, _, _, _, hz, hn⟩ := hW
    refine ⟨hok, _, _, ([] ++ pa) ++ pv, ⟨[] ++ pa, pv, trodAll_append (hargs _ (fun _ _ => rfl)) (hres _ _ _), hvars _ (fun _ _ => rfl), rfl, ?_, ?_⟩, ?_⟩
    · intro b off hp
      have hp' : (.cell b off : MemPlace) ∈ before := by rw [hps]; simpa using hp
      rw [RowKit.Below.frozen hk (hlt _ hp')]
      exact hz b off hp'
    · intro ha
      have := hn ha
      rw [hps] at this
      simpa using this
    · intro p hp _
      rw [hps]
      simpa using hp
end
end Go.ChangeShapes

/-
  From a reading of the arguments to what lies in memory; and back: a law leaves the arguments as they were.
-/
set_option linter.unusedSimpArgs false
set_option linter.unusedVariables false
set_option linter.unnecessarySimpa false
namespace Go.Sv
open Go Go.RowKit Go.ChangeShapes Go.WideShapes
theorem cell_lt {w : World} {a : Addr} {v : Value} (h : w.cell? a = some v) : a.block < w.heap.size := by
  rcases Nat.lt_or_ge a.block w.heap.size with h1 | h1
  · exact h1
  · have : w.heap[a.block]? = none := Array.getElem?_eq_none h1
    simp [World.cell?, this] at h
theorem seg_app {w : World} {a : Addr} {l l' : List Value} (h : seg w a l) (h' : seg w (a.add l.length) l') : seg w a (l ++ l') := by
  intro i hi
  rcases Nat.lt_or_ge i l.length with h1 | h1
  · rw [h i h1, List.getElem?_append_left h1]
  · have := h' (i - l.length) (by simp at hi; omega)
    rw [add_add, show l.length + (i - l.length) = i by omega] at this
    rw [this, List.getElem?_append_right h1]
theorem seg_range {w : World} {a : Addr} {k : Nat} (f : Nat → List Value) : ∀ n : Nat, (∀ i, i < n → (f i).length = k ∧ seg w (a.add (i * k)) (f i)) → seg w a ((List.range n).flatMap f) ∧ ((List.range n).flatMap f).length = n * k
  | 0, _ => ⟨fun i hi => by simp at hi, by simp⟩
  | n + 1, h => by
    obtain ⟨h1, h2⟩ := seg_range f n fun i hi => h i (by omega)
    obtain ⟨h3, h4⟩ := h n (by omega)
    rw [List.range_succ, List.flatMap_append]
    simp only [List.flatMap_cons, List.flatMap_nil, List.append_nil]
    refine ⟨seg_app h1 (by rw [h2]; exact h4), ?_⟩
    rw [List.length_append, h2, h3, Nat.succ_mul]
/-- a law's ending: it answered true, and left all as it was -/
theorem trodAll_frm {H : Type} {enc : TypeId × Value → H} {P : Program} (hl : laidOutB P = true) {W W' : World} (hf : Sv.Frm W W') {sp : Nat → Bool} : ∀ {ts : List TypeId} {vs : List Value} {ds : List (DataW H)} {ps : List MemPlace},
    (∀ t ∈ ts, P.readableRec t = true ∧ t < P.types.size) → DataW.TrodAll enc P W 0 (fun _ => true) true ts vs ds ps → (∀ p ∈ ps, p.block < W.heap.size) → (∀ p ∈ ps, sp p.block = true) → DataW.TrodAll enc P W' 0 sp true ts vs ds ps
  | [], [], [], _, _, h, _, _ => h
  | t :: ts, v :: vs, d :: ds, _, ht, ⟨p, q, h1, h2, e⟩, hlt, hs => by
    subst e
    refine ⟨p, q, ?_, ?_, rfl⟩
    · obtain ⟨hr, hrow⟩ := ht t List.mem_cons_self
      exact WideElems.Trod_stays hl hr hrow h1 (fun x hx => RowKit.Below.same hf (hlt x (List.mem_append_left _ hx))) fun x hx => hs x (List.mem_append_left _ hx)
    · exact trodAll_frm hl hf (fun t ht' => ht t (List.mem_cons_of_mem _ ht')) h2 (fun x hx => hlt x (List.mem_append_right _ hx)) fun x hx => hs x (List.mem_append_right _ hx)
theorem law_ends {H : Type} {enc : TypeId × Value → H} {P : Program} {f : Func} {s : ChangeSpec} {W W' : World} {args : Array Value} {ds gs : List (DataW H)} {before : List MemPlace} {tb : TypeId}
    (hl : laidOutB P = true) (hT : ∀ t ∈ f.params.toList, P.readableRec t = true ∧ t < P.types.size) (hv : s.vars = []) (hrt : f.resultTypes = #[tb]) (hb : P.underlying tb = some .bool)
    (hW : DataW.Whole enc P f.params.toList s.vars false W args.toList ds gs before) (hfn : s.fn H (ds ++ gs) = { results := [.lit (.bool true)], args := ds ++ gs }) (hg : Frm W W') :
    s.post enc P f false true false false W args (.bool true) W' := by
  have hW' := hW
  have hlt := hW.lt
  obtain ⟨p, q, hA, hV, rfl, _, _⟩ := hW
  rw [hv] at hV
  obtain ⟨rfl, rfl⟩ := trodVars_none hV
  have hrl : (Value.bool true).resultList f.resultTypes.size = [.bool true] := by rw [hrt]; rfl
  simp only [List.append_nil] at hlt hfn
  refine post_frm (pa := p) (pv := []) hW' (fun _ _ _ => ?_) (fun sp hsp => ?_) (fun _ _ => ?_) rfl hg (ok_one hrt rfl (okWide_bool_mk hb _))
  · rw [hrt]
    simp only [List.append_nil, hfn]
    exact trodAll_cons_mk (shut_bool hb _) trodAll_mk0
  · simp only [List.append_nil, hfn]
    exact trodAll_frm hl hg hT hA hlt (fun x hx => hsp x (by simpa using hx))
  · simp only [List.append_nil, hfn, hv]
    rfl
end Go.Sv
namespace Go.Proofs.YtjpnhaaneaikbaaDoor
open Go Go.Sv Go.RowKit Go.ChangeShapes Go.WideShapes Go.Deep

theorem laidOut : laidOutB Tryd.prog = true := by kernel_rfl
theorem own : ownKnob Tryd.prog.godebug = none := by kernel_rfl

section
variable {H : Type} {P : Program} {enc : TypeId × Value → H} {w : World} {base : Nat} {spare : Nat → Bool} {held : Bool}
theorem bulkAll_eq : ∀ l : List (DataW H), Rows.uptoBulkAll l = (l.map Rows.uptoBulk).sum
  | [] => by simp [Rows.uptoBulkAll]
  | d :: l => by simp only [Rows.uptoBulkAll, List.map_cons, List.sum_cons, bulkAll_eq l]
theorem bulk_slice (es rs : List (DataW H)) : Rows.uptoBulk (.slice es rs) = (es.map Rows.uptoBulk).sum + (rs.map Rows.uptoBulk).sum + 1 := by simp only [Rows.uptoBulk, bulkAll_eq]
theorem bulk_agg (es : List (DataW H)) : Rows.uptoBulk (.agg es) = (es.map Rows.uptoBulk).sum + 1 := by simp only [Rows.uptoBulk, bulkAll_eq]
theorem bulk_nil : Rows.uptoBulk (.nil : DataW H) = 1 := by simp only [Rows.uptoBulk]
theorem bulk_str (l : List UInt8) : Rows.uptoBulk (.lit (.string l) : DataW H) = l.length + 1 := by simp only [Rows.uptoBulk]
theorem bulk_int (k : IntKind) (n : Int) : Rows.uptoBulk (.lit (.int k n) : DataW H) = 1 := by simp only [Rows.uptoBulk]
theorem bulk_bool (b : Bool) : Rows.uptoBulk (.lit (.bool b) : DataW H) = 1 := by simp only [Rows.uptoBulk]

/-- a slice of records: what they are, where they lie, and what they hold together -/
theorem open_recs {t e : TypeId} {fuel : Nat} {cs : List Value} {x : DataW H × List MemPlace} {α : Type} (cells : α → List Value) (wt : α → Nat) (Q : α → Prop) (ht : P.underlying t = some (.slice e))
    (h : DataW.trod enc P w base spare held fuel t cs = some x)
    (hrec : ∀ k cs' y, cs'.length = P.cellsOf e → DataW.trod enc P w base spare held k e cs' = some y → ∃ r, cs' = cells r ∧ Q r ∧ wt r ≤ Rows.uptoBulk y.1) :
    ∃ (p : Option Addr) (c : Nat) (rs : List α), cs = [.slice p rs.length c] ∧ rs.length ≤ c ∧ c ≤ maxLen ∧ Im [] w p (rs.flatMap cells) ∧ (∀ r ∈ rs, Q r) ∧ (rs.map wt).sum + 1 ≤ Rows.uptoBulk x.1 := by
  rcases open_slice ht h with ⟨rfl, rfl⟩ | ⟨a, len, cap, m, n, D, Pl, rfl, _, hl, hm, hmm, rfl, hi⟩
  · exact ⟨none, 0, [], rfl, Nat.le_refl _, Nat.zero_le _, .inl rfl, by simp, by simp [bulk_nil]⟩
  · have hlm : len ≤ m := by rw [hmm]; split <;> omega
    have key : ∀ n : Nat, n ≤ len → ∃ rs : List α, rs.length = n ∧ rs.flatMap cells = (List.range n).flatMap (fun i => (w.cells? base (a.add (i * P.cellsOf e)) (P.cellsOf e)).getD []) ∧ (∀ r ∈ rs, Q r) ∧ (rs.map wt).sum ≤ ((List.range n).map fun i => Rows.uptoBulk (D i)).sum := by
      intro n
      induction n with
      | zero => intro _; exact ⟨[], rfl, rfl, by simp, by simp⟩
      | succ n ih =>
        intro hn
        obtain ⟨rs, h1, h2, h3, h4⟩ := ih (by omega)
        obtain ⟨cs', h5, h6⟩ := hi n (by omega)
        obtain ⟨_, hcl, _⟩ := World.cells?_some h5
        obtain ⟨r, h7, h8, h9⟩ := hrec _ _ _ hcl h6
        refine ⟨rs ++ [r], by simp [h1], ?_, ?_, ?_⟩
        · rw [List.range_succ, List.flatMap_append, List.flatMap_append, h2]
          simp [h5, h7]
        · intro x hx
          rcases List.mem_append.1 hx with hx | hx
          · exact h3 x hx
          · rw [List.mem_singleton.1 hx]; exact h8
        · rw [List.range_succ, List.map_append, List.map_append, List.sum_append, List.sum_append]
          simp only [List.map_cons, List.map_nil, List.sum_cons, List.sum_nil]
          dsimp only at h9
          omega
    obtain ⟨rs, h1, h2, h3, h4⟩ := key len (Nat.le_refl _)
    refine ⟨some a, cap, rs, by rw [h1], by omega, hm, ?_, h3, ?_⟩
    · rw [h2]
      have hsr := seg_range (w := w) (a := a) (k := P.cellsOf e) (fun i => (w.cells? base (a.add (i * P.cellsOf e)) (P.cellsOf e)).getD []) len (fun i hil => by
        obtain ⟨cs', h5, _⟩ := hi i (by omega)
        obtain ⟨_, hcl, hat⟩ := World.cells?_some h5
        rw [h5]
        exact ⟨hcl, fun j hj => hat j (by simpa [hcl] using hj)⟩)
      generalize (List.range len).flatMap (fun i => (w.cells? base (a.add (i * P.cellsOf e)) (P.cellsOf e)).getD []) = L at *
      cases L with
      | nil => exact .inl rfl
      | cons v L =>
        refine .inr ⟨a, rfl, hsr.1, ?_, by simp⟩
        have := hsr.1 0 (by simp)
        have h0 : w.cell? (a.add 0) = some v := this
        have := cell_lt h0
        rwa [add_block] at this
    · rw [bulk_slice, List.map_map]
      have : ((List.range len).map (Rows.uptoBulk ∘ D)).sum = ((List.range len).map fun i => Rows.uptoBulk (D i)).sum := rfl
      omega
theorem str_of (s : ByteArray) : Value.string s = str s.data.toList := by cases s; rfl
/-- a cell that is a text -/
theorem open_strc {t : TypeId} {fuel : Nat} {cs : List Value} {x : DataW H × List MemPlace} (ht : P.underlying t = some .string) (h : DataW.trod enc P w base spare held fuel t cs = some x) : ∃ l : List UInt8, cs = [str l] ∧ Rows.uptoBulk x.1 = l.length + 1 := by
  obtain ⟨s, rfl, rfl, _⟩ := DataW.trod_string ht h
  exact ⟨s.data.toList, by rw [str_of], bulk_str _⟩
theorem open_intc {t : TypeId} {k : IntKind} {fuel : Nat} {cs : List Value} {x : DataW H × List MemPlace} (ht : P.underlying t = some (.int k)) (h : DataW.trod enc P w base spare held fuel t cs = some x) : ∃ n : Int, cs = [.int k n] ∧ k.min ≤ n ∧ n ≤ k.max ∧ Rows.uptoBulk x.1 = 1 := by
  obtain ⟨n, rfl, rfl, hw⟩ := DataW.trod_int ht h
  simp only [Lit.wf, IntKind.has, Bool.and_eq_true, decide_eq_true_eq] at hw
  exact ⟨n, rfl, hw.1, hw.2, bulk_int _ _⟩
theorem open_boolc {t : TypeId} {fuel : Nat} {cs : List Value} {x : DataW H × List MemPlace} (ht : P.underlying t = some .bool) (h : DataW.trod enc P w base spare held fuel t cs = some x) : ∃ b : Bool, cs = [.bool b] ∧ Rows.uptoBulk x.1 = 1 := by
  obtain ⟨b, rfl, rfl⟩ := DataW.trod_bool ht h
  exact ⟨b, rfl, bulk_bool _⟩
theorem small_le {ds : List (DataW H)} (hk : Rows.uptoSmall H ds = true) : (ds.map Rows.uptoBulk).sum ≤ 1048576 := by
  have := of_decide_eq_true hk
  rwa [bulkAll_eq] at this
end
end Go.Proofs.YtjpnhaaneaikbaaDoor

/-
  Readings of arguments of one cell: texts.
-/
set_option linter.unusedSimpArgs false
set_option linter.unusedVariables false
set_option linter.unnecessarySimpa false
namespace Go.Proofs.YtjpnhaaneaikbaaDoor
open Go Go.Sv Go.RowKit Go.ChangeShapes Go.WideShapes Go.Deep
section
variable {H : Type} {enc : TypeId × Value → H} {w : World} {base : Nat} {spare : Nat → Bool} {held : Bool}
set_option maxRecDepth 100000 in
theorem open_str1 {v : Value} {d : DataW H} {ps : List MemPlace} {r : Reach} {b0 : Nat} (hv : Value.okWide Tryd.prog w r b0 9 v) (h : DataW.Trod enc Tryd.prog w base spare held 9 v d ps) :
    ∃ l : List UInt8, v = str l ∧ l.length + 1 ≤ Rows.uptoBulk d := by
  obtain ⟨s, rfl⟩ := okWide_string Tryd.underlying9 hv
  obtain ⟨fuel, hf⟩ := h
  obtain ⟨l, e, hw⟩ := open_strc Tryd.underlying9 hf
  dsimp only at hw
  exact ⟨l, by simpa [Value.cells] using e, by omega⟩
end
end Go.Proofs.YtjpnhaaneaikbaaDoor

/-
  Readings of a rule and of schemes.
-/
set_option linter.unusedSimpArgs false
set_option linter.unusedVariables false
set_option linter.unnecessarySimpa false
namespace Go.Proofs.YtjpnhaaneaikbaaDoor
open Go Go.Sv Go.RowKit Go.ChangeShapes Go.WideShapes Go.Deep

theorem c_str13 : Tryd.prog.cellsOf 9 = 1 := by kernel_rfl
theorem c_bool13 : Tryd.prog.cellsOf 4 = 1 := by kernel_rfl
theorem c_strs13 : Tryd.prog.cellsOf 23 = 1 := by kernel_rfl
theorem c_kind13 : Tryd.prog.cellsOf 29 = 1 := by kernel_rfl
theorem c_rule13 : Tryd.prog.cellsOf 31 = 3 := by kernel_rfl
theorem c_schs13 : Tryd.prog.cellsOf 33 = 2 := by kernel_rfl
theorem len_sum13 (ws : List (List UInt8)) : ws.length ≤ (ws.map fun s => s.length + 1).sum := by
  induction ws with
  | nil => exact Nat.le_refl _
  | cons a l ih => simp only [List.length_cons, List.map_cons, List.sum_cons]; omega
theorem sum_mem13 {ws : List (List UInt8)} {x : List UInt8} (h : x ∈ ws) : x.length + 1 ≤ (ws.map fun s => s.length + 1).sum := by
  induction ws with
  | nil => cases h
  | cons a l ih =>
    simp only [List.map_cons, List.sum_cons]
    rcases List.mem_cons.1 h with rfl | h
    · omega
    · have := ih h; omega
section
variable {H : Type} {enc : TypeId × Value → H} {w : World} {base : Nat} {spare : Nat → Bool} {held : Bool}
theorem open_strs13 {fuel : Nat} {cs : List Value} {x : DataW H × List MemPlace} (h : DataW.trod enc Tryd.prog w base spare held fuel 23 cs = some x) :
    ∃ (p : Option Addr) (c : Nat) (es : List (List UInt8)), cs = [.slice p es.length c] ∧ es.length ≤ c ∧ Im [] w p (Go.Proofs.YtjpnhaaneaikbaaDoor.strs es) ∧ (es.map fun s => s.length + 1).sum + 1 ≤ Rows.uptoBulk x.1 := by
  obtain ⟨p, c, es, e, hc, _, him, _, hw⟩ := open_recs (fun s => [str s]) (fun s => s.length + 1) (fun _ => True) Tryd.underlying23 h (fun k cs' y hl hy => by
    obtain ⟨s, e, hb⟩ := open_strc Tryd.underlying9 hy
    exact ⟨s, e, trivial, by omega⟩)
  refine ⟨p, c, es, e, hc, ?_, hw⟩
  have key : ∀ l : List (List UInt8), Go.Proofs.YtjpnhaaneaikbaaDoor.strs l = l.flatMap fun s => [str s] := by
    intro l
    unfold Go.Proofs.YtjpnhaaneaikbaaDoor.strs
    induction l with
    | nil => rfl
    | cons a l ih => rw [List.map_cons, List.flatMap_cons, ih]; rfl
  rw [key]
  exact him
set_option maxRecDepth 100000 in
theorem open_rule {fuel : Nat} {cs : List Value} {x : DataW H × List MemPlace} (h : DataW.trod enc Tryd.prog w base spare held fuel 31 cs = some x) :
    ∃ (nm : List UInt8) (k : Int) (wp : Option Addr) (wc : Nat) (ws : List (List UInt8)), cs = [str nm, .int .i64 k, .slice wp ws.length wc] ∧ IntKind.min .i64 ≤ k ∧ k ≤ IntKind.max .i64 ∧ ws.length ≤ wc ∧ Im [] w wp (Go.Proofs.YtjpnhaaneaikbaaDoor.strs ws) ∧ nm.length + (ws.map fun s => s.length + 1).sum + 1 ≤ Rows.uptoBulk x.1 := by
  obtain ⟨xs, n, _, rfl, hl, hlen, hf⟩ := DataW.trod_struct Tryd.underlying31 h
  rw [c_rule13] at hl
  have f0 := hf 0 _ rfl
  have f1 := hf 1 _ rfl
  have f2 := hf 2 _ rfl
  clear hf h
  match cs, hl with
  | [c0, c1, c2], _ =>
    match xs, hlen with
    | [y0, y1, y2], _ =>
      simp only [c_str13, c_kind13, c_strs13, List.drop_zero, List.drop_succ_cons, List.take_succ_cons, List.take_zero, List.getElem?_cons_zero, List.getElem?_cons_succ] at f0 f1 f2
      obtain ⟨l0, e0, b0⟩ := open_strc Tryd.underlying9 f0
      obtain ⟨k, e1, k1, k2, b1⟩ := open_intc Tryd.underlying29 f1
      obtain ⟨wp, wc, ws, e2, hc, hi, b2⟩ := open_strs13 f2
      injection e0 with e0; injection e1 with e1; injection e2 with e2
      subst e0 e1 e2
      refine ⟨l0, k, wp, wc, ws, rfl, k1, k2, hc, hi, ?_⟩
      rw [bulk_agg]
      simp only [List.map_cons, List.map_nil, List.sum_cons, List.sum_nil]
      omega
set_option maxRecDepth 100000 in
theorem open_rule1 {v : Value} {d : DataW H} {ps : List MemPlace} {r : Reach} {b0 : Nat} (hv : Value.okWide Tryd.prog w r b0 31 v) (h : DataW.Trod enc Tryd.prog w base spare held 31 v d ps) :
    ∃ (nm : List UInt8) (k : Int) (wp : Option Addr) (wc : Nat) (ws : List (List UInt8)), v = .agg #[str nm, .int .i64 k, .slice wp ws.length wc] ∧ IntKind.min .i64 ≤ k ∧ k ≤ IntKind.max .i64 ∧ ws.length ≤ wc ∧ Im [] w wp (Go.Proofs.YtjpnhaaneaikbaaDoor.strs ws) ∧ nm.length + (ws.map fun s => s.length + 1).sum + 1 ≤ Rows.uptoBulk d := by
  obtain ⟨cs, rfl, _⟩ := okWide_struct Tryd.underlying31 hv
  obtain ⟨fuel, hf⟩ := h
  obtain ⟨nm, k, wp, wc, ws, e, h1⟩ := open_rule hf
  refine ⟨nm, k, wp, wc, ws, ?_, h1⟩
  have e' : cs.toList = [str nm, .int .i64 k, .slice wp ws.length wc] := by simpa [Value.cells] using e
  rw [← e']
set_option maxRecDepth 100000 in
theorem open_schs {fuel : Nat} {cs : List Value} {x : DataW H × List MemPlace} (h : DataW.trod enc Tryd.prog w base spare held fuel 33 cs = some x) :
    ∃ (sp : Option Addr) (sc : Nat) (l : List (List UInt8)) (rel : Bool), cs = [.slice sp l.length sc, .bool rel] ∧ l.length ≤ sc ∧ Im [] w sp (Go.Proofs.YtjpnhaaneaikbaaDoor.strs l) ∧ (l.map fun s => s.length + 1).sum + 1 ≤ Rows.uptoBulk x.1 := by
  obtain ⟨xs, n, _, rfl, hl, hlen, hf⟩ := DataW.trod_struct Tryd.underlying33 h
  rw [c_schs13] at hl
  have f0 := hf 0 _ rfl
  have f1 := hf 1 _ rfl
  clear hf h
  match cs, hl with
  | [c0, c1], _ =>
    match xs, hlen with
    | [y0, y1], _ =>
      simp only [c_bool13, c_strs13, List.drop_zero, List.drop_succ_cons, List.take_succ_cons, List.take_zero, List.getElem?_cons_zero, List.getElem?_cons_succ] at f0 f1
      obtain ⟨sp, sc, l, e0, hc, hi, b0⟩ := open_strs13 f0
      obtain ⟨rel, e1, b1⟩ := open_boolc Tryd.underlying4 f1
      injection e0 with e0; injection e1 with e1
      subst e0 e1
      refine ⟨sp, sc, l, rel, rfl, hc, hi, ?_⟩
      rw [bulk_agg]
      simp only [List.map_cons, List.map_nil, List.sum_cons, List.sum_nil]
      omega
set_option maxRecDepth 100000 in
theorem open_schs1 {v : Value} {d : DataW H} {ps : List MemPlace} {r : Reach} {b0 : Nat} (hv : Value.okWide Tryd.prog w r b0 33 v) (h : DataW.Trod enc Tryd.prog w base spare held 33 v d ps) :
    ∃ (sp : Option Addr) (sc : Nat) (l : List (List UInt8)) (rel : Bool), v = .agg #[.slice sp l.length sc, .bool rel] ∧ l.length ≤ sc ∧ Im [] w sp (Go.Proofs.YtjpnhaaneaikbaaDoor.strs l) ∧ (l.map fun s => s.length + 1).sum + 1 ≤ Rows.uptoBulk d := by
  obtain ⟨cs, rfl, _⟩ := okWide_struct Tryd.underlying33 hv
  obtain ⟨fuel, hf⟩ := h
  obtain ⟨sp, sc, l, rel, e, h1⟩ := open_schs hf
  refine ⟨sp, sc, l, rel, ?_, h1⟩
  have e' : cs.toList = [.slice sp l.length sc, .bool rel] := by simpa [Value.cells] using e
  rw [← e']
end
end Go.Proofs.YtjpnhaaneaikbaaDoor

/-
  What a row's list says of the variable link.never.
-/
set_option linter.unusedSimpArgs false
set_option linter.unusedVariables false
set_option linter.unnecessarySimpa false
namespace Go.Proofs.YtjpnhaaneaikbaaDoor
open Go Go.Sv Go.RowKit Go.ChangeShapes Go.WideShapes Go.ChangeAt

theorem cells_of_strs {H : Type} {enc : TypeId × Value → H} {P : Program} {w : World} {base : Nat} {sp : Nat → Bool} {held : Bool} {fuel : Nat} {t e : TypeId} {n : Nat} {cs : List Value} {ss : List (List UInt8)} {p : List MemPlace}
    (ht : P.underlying t = some (.array n e)) (he : P.underlying e = some .string) (hce : P.cellsOf e = 1) (hct : P.cellsOf t = n)
    (h : DataW.trod enc P w base sp held fuel t cs = some (.agg (ss.map fun s => .lit (.string s)), p)) : cs = ss.map fun s => str s := by
  cases fuel with
  | zero => simp [DataW.trod] at h
  | succ fuel =>
    simp only [DataW.trod, ht, hce, hct, Nat.mul_one] at h
    split at h
    · rename_i hl
      obtain ⟨xs, hm, hx⟩ := Option.map_eq_some_iff.1 h
      have hxs : xs.map (·.1) = ss.map fun s => (DataW.lit (.string s) : DataW H) := by
        have := congrArg Prod.fst hx
        simpa using this
      have hxl : xs.length = n := by simpa using Go.Lib.mapM_length hm
      have hzl : ss.length = n := by
        have := congrArg List.length hxs
        simp at this
        omega
      apply List.ext_getElem?
      intro i
      by_cases hi : i < n
      · obtain ⟨b, hb, hf⟩ := Go.Lib.mapM_at hm i i (by simp [hi])
        obtain ⟨s, hc, rfl, _⟩ := DataW.trod_string he hf
        have h1 : cs[i]? = some (.string s) := by
          have := congrArg (·[0]?) hc
          simpa [List.getElem?_take, List.getElem?_drop] using this
        have h2 : (xs.map (·.1))[i]? = some (DataW.lit (.string s.data.toList) : DataW H) := by simp [hb]
        rw [hxs] at h2
        simp only [List.getElem?_map, Option.map_eq_some_iff, DataW.lit.injEq, Lit.string.injEq] at h2
        obtain ⟨s', hs', e'⟩ := h2
        rw [h1, List.getElem?_map, hs', Option.map_some, e', str_of]
      · rw [List.getElem?_eq_none (by omega), List.getElem?_eq_none (by simp; omega)]
    · cases h
theorem gNever : Tryd.prog.globalNamed "sieve/link.never" = some 0 := by kernel_rfl
theorem gNeverType : (Tryd.prog.globals[0]?).map (·.type) = some 101 := by kernel_rfl
/-- a world for the witness: the variable holds what its initialiser lays -/
noncomputable def neverWorld (os : Os) : World :=
  { World.holding Tryd.prog os ⟨#[], #[], []⟩ with heap := (World.holding Tryd.prog os ⟨#[], #[], []⟩).heap.modify 0 fun
      | .cells _ t frozen => .cells neverV.toArray t frozen
      | o => o }
end Go.Proofs.YtjpnhaaneaikbaaDoor

/-
  What a row's list says of any variable in it.
-/
set_option linter.unusedSimpArgs false
set_option linter.unusedVariables false
set_option linter.unnecessarySimpa false
namespace Go.Proofs.YtjpnhaaneaikbaaDoor
open Go Go.Sv Go.RowKit Go.ChangeShapes Go.WideShapes Go.ChangeAt

theorem laid_anywhere {P : Program} {W : World} {name : String} {d : DataW Unit} : ∀ {laid : List (String × DataW Unit)} {ps : List MemPlace}, DataW.LaidVars P W laid ps → (name, d) ∈ laid →
    ∃ g t cs fuel p, P.globalNamed name = some g ∧ (P.globals[g]?).map (·.type) = some t ∧ W.var? P name = some cs ∧ DataW.trod (fun _ => ()) P W 0 (fun _ => true) false fuel t cs.toList = some (d, p)
  | [], _, _, hm => by cases hm
  | x :: laid, ps, h, hm => by
    obtain ⟨g', t', cs, fuel, p, q, hg', ht', hvar, hd, hr, _⟩ := h
    rcases List.mem_cons.1 hm with rfl | hm
    · exact ⟨g', t', cs, fuel, p, hg', ht', hvar, hd⟩
    · exact laid_anywhere hr hm
theorem never_in {W : World} {laid : List (String × DataW Unit)} (h : laidMet Tryd.prog laid W) (hm : ("sieve/link.never", Rows.laid_sieve_link_never) ∈ laid) : Never W := by
  obtain ⟨ps, hL, _⟩ := h
  obtain ⟨g', t', cs, fuel, p, hg', ht', hvar, hd⟩ := laid_anywhere hL hm
  obtain rfl := Option.some.inj (gNever.symm.trans hg')
  obtain rfl := Option.some.inj (gNeverType.symm.trans ht')
  have hcs : cs.toList = neverV := cells_of_strs (ss := neverL) Tryd.underlying101 Tryd.underlying9 (by kernel_rfl) (by kernel_rfl) hd
  have hcell : ∀ i, W.cell? ⟨0, i, none⟩ = neverV[i]? := fun i => by
    have := World.var?_cell gNever hvar i
    rw [this, ← hcs]
    simp
  have hlt : 0 < W.heap.size := by
    have h0 : W.cell? ⟨0, 0, none⟩ = some (str [106, 97, 118, 97, 115, 99, 114, 105, 112, 116]) := hcell 0
    exact cell_lt h0
  refine .inr ⟨_, rfl, fun i hi => ?_, hlt, by simp⟩
  have ea : (⟨0, 0, none⟩ : Addr).add i = ⟨0, i, none⟩ := by unfold Addr.add; split <;> simp_all
  rw [ea]
  exact hcell i
end Go.Proofs.YtjpnhaaneaikbaaDoor

/-
  A world for the witness of the seat's cards: the listed variables hold what the texts lay.
-/
set_option linter.unusedSimpArgs false
set_option linter.unusedVariables false
set_option linter.unnecessarySimpa false
namespace Go.Proofs.YtjpnhaaneaikbaaDoor
open Go Go.Sv Go.RowKit Go.ChangeShapes Go.WideShapes Go.ChangeAt
def nevV : List Value := [str [106, 97, 118, 97, 115, 99, 114, 105, 112, 116], str [100, 97, 116, 97], str [118, 98, 115, 99, 114, 105, 112, 116], str [98, 108, 111, 98], str [102, 105, 108, 101], str [102, 105, 108, 101, 115, 121, 115, 116, 101, 109], str [97, 98, 111, 117, 116]]
noncomputable def valHeap (h : Array Obj) : Array Obj :=
  ((h.modify 0 fun | .cells _ t f => .cells nevV.toArray t f | o => o).modify 2 fun
    | .cells _ t f => .cells (Go.Pinned.utf8FirstZ.map fun (z : Nat) => Value.int .u8 z).toArray t f | o => o).modify 3 fun
    | .cells _ t f => .cells (([128, 191, 160, 191, 128, 159, 144, 191, 128, 143] ++ List.replicate 22 0 : List Int).map fun z => Value.int .u8 z).toArray t f | o => o
noncomputable def valWorld (os : Os) : World := { World.holding Tryd.prog os ⟨#[], #[], []⟩ with heap := valHeap (World.holding Tryd.prog os ⟨#[], #[], []⟩).heap }
end Go.Proofs.YtjpnhaaneaikbaaDoor

