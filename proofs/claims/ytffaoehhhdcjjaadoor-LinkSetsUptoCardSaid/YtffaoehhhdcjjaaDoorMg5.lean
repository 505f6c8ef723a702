/-
  Our texts SvLqC, SvLqD, SvLqE, SvLqF, SvLqG, SvLkG, SvEq, SvTabE, SvLqH, SvLqI, SvPost, SvOpen, SvOpn, SvOpnAt, SvOpn12, SvOpn12c, joined.
-/
import Derived.Test.YtffaoehhhdcjjaaDoorMg4
import Derived.Laws.StructEq
import Derived.Test.YtffaoehhhdcjjaaDoorRows
import Derived.ChangeSame
import Derived.WalkKit
import Derived.ProofKit
import Derived.OpenShut
import Derived.JoinedCond
import Derived.Deep.Slices
import Derived.WideKeyArgs
import Derived.Lib.LaidTab
import Derived.Deep.DeepHandedRow
import Derived.Deep.DeepWitnessRowRef
/-
  Packages link, sieveref12: the descriptors that are good, as a law of lists.
-/
set_option linter.unusedSimpArgs false
set_option linter.unusedVariables false
set_option linter.unnecessarySimpa false
namespace Go.Proofs.YtffaoehhhdcjjaaDoor
open Go Go.Sv Go.RowKit

def goodL (v : List UInt8) : Bool :=
  if v = [] then true else if digN v < 1 ∨ 9 < digN v then false
  else if v.drop (digN v) = [119] ∨ v.drop (digN v) = [120] then true
  else if v.drop (digN v) = [] ∨ at0 (v.drop (digN v)) 0 ≠ 46 then false
  else decide (1 ≤ digN ((v.drop (digN v)).drop 1) ∧ digN ((v.drop (digN v)).drop 1) ≤ 9 ∧ (v.drop (digN v)).drop (1 + digN ((v.drop (digN v)).drop 1)) = [120])
def numR (b : List UInt8) : Bool := decide (1 ≤ b.length ∧ b.length ≤ 9) && b.all fun c => digitR c.toNat
def goodQ (v : List UInt8) : Bool :=
  if v = [] then true else if at0 v (v.length - 1) ≠ 119 ∧ at0 v (v.length - 1) ≠ 120 then false
  else if numR (v.take (v.length - 1)) = true then true
  else decide (at0 v (v.length - 1) = 120 ∧ upR (v.take (v.length - 1)) [46] < (v.take (v.length - 1)).length) && numR ((v.take (v.length - 1)).take (upR (v.take (v.length - 1)) [46])) && numR ((v.take (v.length - 1)).drop (upR (v.take (v.length - 1)) [46] + 1))
def GoodP (v : List UInt8) : Prop := v = [] ∨ (∃ D c, v = D ++ [c] ∧ (c = 119 ∨ c = 120) ∧ numR D = true) ∨ ∃ D E, v = D ++ 46 :: E ++ [120] ∧ numR D = true ∧ numR E = true
theorem num_iff (b : List UInt8) : numR b = true ↔ (1 ≤ b.length ∧ b.length ≤ 9) ∧ b.all (fun c => digitR c.toNat) = true := by simp [numR]
theorem digN_take : ∀ v : List UInt8, (v.take (digN v)).all (fun c => digitR c.toNat) = true
  | [] => rfl
  | c :: v => by
    have ih := digN_take v
    unfold digN at ih ⊢
    rw [List.takeWhile_cons]
    split
    · rename_i h
      rw [List.length_cons, List.take_succ_cons, List.all_cons, h, ih]
      rfl
    · rfl
theorem digN_app {D r : List UInt8} {c : UInt8} (hD : D.all (fun c => digitR c.toNat) = true) (hc : digitR c.toNat = false) : digN (D ++ c :: r) = D.length := by
  unfold digN
  rw [List.takeWhile_append_of_pos (fun x hx => List.all_eq_true.1 hD x hx), List.takeWhile_cons, hc]
  simp
theorem num_take (v : List UInt8) (h1 : 1 ≤ digN v) (h2 : digN v ≤ 9) : numR (v.take (digN v)) = true := by
  have := digN_le v
  exact (num_iff _).2 ⟨by rw [List.length_take]; omega, digN_take v⟩
theorem good_left (v : List UInt8) : goodL v = true ↔ GoodP v := by
  have h119 : digitR (119 : UInt8).toNat = false := by decide
  have h120 : digitR (120 : UInt8).toNat = false := by decide
  have h46 : digitR (46 : UInt8).toNat = false := by decide
  constructor
  · intro h
    unfold goodL at h
    by_cases h0 : v = []
    · exact .inl h0
    rw [if_neg h0] at h
    by_cases h1 : digN v < 1 ∨ 9 < digN v
    · rw [if_pos h1] at h; cases h
    rw [if_neg h1] at h
    have hD := num_take v (by omega) (by omega)
    have hsp : v = v.take (digN v) ++ v.drop (digN v) := (List.take_append_drop _ _).symm
    generalize v.take (digN v) = D at *
    generalize v.drop (digN v) = u at *
    by_cases h2 : u = [119] ∨ u = [120]
    · rcases h2 with rfl | rfl
      · exact .inr (.inl ⟨D, 119, hsp, .inl rfl, hD⟩)
      · exact .inr (.inl ⟨D, 120, hsp, .inr rfl, hD⟩)
    rw [if_neg h2] at h
    by_cases h3 : u = [] ∨ at0 u 0 ≠ 46
    · rw [if_pos h3] at h; cases h
    rw [if_neg h3] at h
    simp only [decide_eq_true_eq] at h
    obtain ⟨c, r, rfl⟩ := List.exists_cons_of_ne_nil (fun e => h3 (.inl e))
    have hc : c = 46 := by
      have : c.toNat = 46 := Decidable.not_not.1 fun e => h3 (.inr e)
      exact UInt8.toNat_inj.1 this
    subst hc
    obtain ⟨e1, e2, e3⟩ := h
    rw [List.drop_succ_cons, List.drop_zero] at e1 e2 e3
    rw [Nat.add_comm, List.drop_succ_cons] at e3
    have hE := num_take r e1 e2
    refine .inr (.inr ⟨D, r.take (digN r), ?_, hD, hE⟩)
    rw [hsp, ← e3, List.append_assoc, List.cons_append, List.take_append_drop]
  · intro h
    rcases h with rfl | ⟨D, c, rfl, hc, hD⟩ | ⟨D, E, rfl, hD, hE⟩
    · rfl
    · obtain ⟨⟨h1, h2⟩, h3⟩ := (num_iff D).1 hD
      have hcd : digitR c.toNat = false := by rcases hc with rfl | rfl <;> decide
      unfold goodL
      rw [if_neg (by simp), digN_app h3 hcd, if_neg (by omega), List.drop_left, if_pos (by rcases hc with rfl | rfl <;> simp)]
    · obtain ⟨⟨h1, h2⟩, h3⟩ := (num_iff D).1 hD
      obtain ⟨⟨g1, g2⟩, g3⟩ := (num_iff E).1 hE
      rw [List.append_assoc, List.cons_append]
      unfold goodL
      rw [if_neg (by simp), digN_app h3 h46, if_neg (by omega), List.drop_left, if_neg (by simp), if_neg (by simp [at0]), List.drop_succ_cons, List.drop_zero, digN_app g3 h120, Nat.add_comm 1, List.drop_succ_cons, List.drop_left]
      simp; omega
theorem good_right (v : List UInt8) : goodQ v = true ↔ GoodP v := by
  have h46 : digitR (46 : UInt8).toNat = false := by decide
  by_cases h0 : v = []
  · subst h0; exact ⟨fun _ => .inl rfl, fun _ => rfl⟩
  obtain ⟨b, c, rfl⟩ : ∃ b c, v = b ++ [c] := ⟨v.dropLast, v.getLast h0, (List.dropLast_concat_getLast h0).symm⟩
  have hlast : at0 (b ++ [c]) ((b ++ [c]).length - 1) = c.toNat := by simp [at0]
  have htk : (b ++ [c]).take ((b ++ [c]).length - 1) = b := by simp
  unfold goodQ
  rw [if_neg h0, hlast, htk]
  constructor
  · intro h
    by_cases h1 : c.toNat ≠ 119 ∧ c.toNat ≠ 120
    · rw [if_pos h1] at h; cases h
    rw [if_neg h1] at h
    have hc : c = 119 ∨ c = 120 := by
      rcases Decidable.em (c.toNat = 119) with e | e
      · exact .inl (UInt8.toNat_inj.1 e)
      · exact .inr (UInt8.toNat_inj.1 (Decidable.not_not.1 fun e2 => h1 ⟨e, e2⟩))
    by_cases h2 : numR b = true
    · exact .inr (.inl ⟨b, c, rfl, hc, h2⟩)
    rw [if_neg h2] at h
    simp only [Bool.and_eq_true, decide_eq_true_eq] at h
    obtain ⟨⟨⟨h3, h4⟩, h5⟩, h6⟩ := h
    have e := (up_split b 46).2 h4
    have hc2 : c = 120 := UInt8.toNat_inj.1 h3
    subst hc2
    refine .inr (.inr ⟨_, _, ?_, h5, h6⟩)
    rw [← e]
  · intro h
    rcases h with e | ⟨D, d, e, hc, hD⟩ | ⟨D, E, e, hD, hE⟩
    · exact absurd e h0
    · obtain ⟨rfl, e2⟩ := List.append_inj' e rfl
      injection e2 with e2
      subst e2
      rw [if_neg (by rcases hc with rfl | rfl <;> decide), if_pos hD]
    · obtain ⟨rfl, e2⟩ := List.append_inj' e rfl
      injection e2 with e2
      subst e2
      have hno : (46 : UInt8) ∉ D := fun hm => by
        have := List.all_eq_true.1 ((num_iff D).1 hD).2 46 hm
        rw [h46] at this; cases this
      have hup : upR (D ++ 46 :: E) [46] = D.length := by
        unfold upR
        rw [List.takeWhile_append_of_pos (fun x hx => by
          have : x ≠ 46 := fun e => hno (e ▸ hx)
          simp [this]), List.takeWhile_cons]
        simp
      rw [if_neg (by decide)]
      split
      · rfl
      · rw [hup, List.take_left, hD, ← List.drop_drop, List.drop_left, List.drop_succ_cons, List.drop_zero, hE]
        simp
theorem good_eq (v : List UInt8) : goodQ v = goodL v := by
  rw [Bool.eq_iff_iff, good_left, good_right]
end Go.Proofs.YtffaoehhhdcjjaaDoor

/-
  Packages link, sieveref12: goodDesc, numeral, good, descriptor; commas cut from a text's end.
-/
set_option linter.unusedSimpArgs false
set_option linter.unusedVariables false
set_option linter.unnecessarySimpa false
namespace Go.Proofs.YtffaoehhhdcjjaaDoor
open Go Go.Sv Go.RowKit

set_option maxHeartbeats 1000000 in
theorem goodDesc_ok (v : List UInt8) (hb : v.length ≤ 1073741824) (w : World) : PureC Tryd.prog 65 #[str v] w (.bool (goodL v)) := by
  unfold goodL
  refine enter (l := [str v]) Tryd.func65 rfl Tryd.ntmps65 (by kernel_rfl) rfl ?_
  refine sgo ?_
  by_cases h0 : v = []
  · rw [if_pos h0]
    refine wcyes ?_ (ht := by simp [h0])
    refine sgo ?_
    (first | refine fp1 (.inl rfl) rfl rfl ?_ | refine fp2 (.inl rfl) rfl rfl rfl ?_ | refine fp3 (.inl rfl) rfl rfl rfl rfl ?_ | refine fp0 (.inr rfl) rfl ?_ | refine fp0 (.inl rfl) rfl ?_ | refine fp1 (.inr rfl) rfl rfl ?_); refine ⟨?_, by (first | exact Frm.refl _ | assumption | exact Go.Sv.Sep.frm (by assumption) | (refine Frm.trans ?_ (by assumption); first | exact Frm.refl _ | assumption))⟩; (try simp only [realB, rv_true, Nat.reduceBEq, cond_true, cond_false, entG, real_lif, updGL])
  rw [if_neg h0]
  refine wcno ?_ (ht := by simp [h0])
  refine sgo ?_
  refine wlpure (digits_ok v (by omega) _) fun w1 hf1 => ?_
  have hk := digN_le v
  generalize digN v = k at *
  refine sgo ?_
  by_cases h1 : k < 1 ∨ 9 < k
  · rw [if_pos h1]
    refine wcyes ?_ (ht := by simp only [pkb_or, Bool.or_eq_true, decide_eq_true_eq]; omega)
    refine sgo ?_
    (first | refine fp1 (.inl rfl) rfl rfl ?_ | refine fp2 (.inl rfl) rfl rfl rfl ?_ | refine fp3 (.inl rfl) rfl rfl rfl rfl ?_ | refine fp0 (.inr rfl) rfl ?_ | refine fp0 (.inl rfl) rfl ?_ | refine fp1 (.inr rfl) rfl rfl ?_); refine ⟨?_, by (first | exact Frm.refl _ | assumption | exact Go.Sv.Sep.frm (by assumption) | (refine Frm.trans ?_ (by assumption); first | exact Frm.refl _ | assumption))⟩; (try simp only [realB, rv_true, Nat.reduceBEq, cond_true, cond_false, entG, real_lif, updGL])
  rw [if_neg h1]
  refine wcno ?_ (ht := by simp only [pkb_or, Bool.or_eq_false_iff, decide_eq_false_iff_not]; omega)
  refine sgo ?_
  have hul : (v.drop k).length ≤ v.length := by rw [List.length_drop]; omega
  generalize v.drop k = u at *
  by_cases h2 : u = [119] ∨ u = [120]
  · rw [if_pos h2]
    refine wcyes ?_ (ht := by simpa only [pkb_or, Bool.or_eq_true, decide_eq_true_eq] using h2)
    refine sgo ?_
    (first | refine fp1 (.inl rfl) rfl rfl ?_ | refine fp2 (.inl rfl) rfl rfl rfl ?_ | refine fp3 (.inl rfl) rfl rfl rfl rfl ?_ | refine fp0 (.inr rfl) rfl ?_ | refine fp0 (.inl rfl) rfl ?_ | refine fp1 (.inr rfl) rfl rfl ?_); refine ⟨?_, by (first | exact Frm.refl _ | assumption | exact Go.Sv.Sep.frm (by assumption) | (refine Frm.trans ?_ (by assumption); first | exact Frm.refl _ | assumption))⟩; (try simp only [realB, rv_true, Nat.reduceBEq, cond_true, cond_false, entG, real_lif, updGL])
  rw [if_neg h2]
  refine wcno ?_ (ht := by simpa only [pkb_or, Bool.or_eq_false_iff, decide_eq_false_iff_not, not_or] using h2)
  by_cases h3 : u = []
  · subst h3
    rw [if_pos (.inl rfl)]
    refine sgo ?_
    (first | refine fp1 (.inl rfl) rfl rfl ?_ | refine fp2 (.inl rfl) rfl rfl rfl ?_ | refine fp3 (.inl rfl) rfl rfl rfl rfl ?_ | refine fp0 (.inr rfl) rfl ?_ | refine fp0 (.inl rfl) rfl ?_ | refine fp1 (.inr rfl) rfl rfl ?_); refine ⟨?_, by (first | exact Frm.refl _ | assumption | exact Go.Sv.Sep.frm (by assumption) | (refine Frm.trans ?_ (by assumption); first | exact Frm.refl _ | assumption))⟩; (try simp only [realB, rv_true, Nat.reduceBEq, cond_true, cond_false, entG, real_lif, updGL])
  have hup : 0 < u.length := List.length_pos_iff.2 h3
  refine sgo ?_
  by_cases h4 : at0 u 0 ≠ 46
  · rw [if_pos (.inr h4)]
    refine wcyes ?_ (ht := by
      simp only [pkb_or, Bool.or_eq_true, decide_eq_true_eq]
      right
      intro e
      apply h4
      have e2 : ((at0 u 0 : Nat) : Int) = 46 := e
      omega)
    refine sgo ?_
    (first | refine fp1 (.inl rfl) rfl rfl ?_ | refine fp2 (.inl rfl) rfl rfl rfl ?_ | refine fp3 (.inl rfl) rfl rfl rfl rfl ?_ | refine fp0 (.inr rfl) rfl ?_ | refine fp0 (.inl rfl) rfl ?_ | refine fp1 (.inr rfl) rfl rfl ?_); refine ⟨?_, by (first | exact Frm.refl _ | assumption | exact Go.Sv.Sep.frm (by assumption) | (refine Frm.trans ?_ (by assumption); first | exact Frm.refl _ | assumption))⟩; (try simp only [realB, rv_true, Nat.reduceBEq, cond_true, cond_false, entG, real_lif, updGL])
  rw [if_neg (fun e => e.elim h3 h4)]
  refine wcno ?_ (ht := by
    simp only [pkb_or, Bool.or_eq_false_iff, decide_eq_false_iff_not]
    refine ⟨h3, fun e => ?_⟩
    apply e
    have e2 : at0 u 0 = 46 := Decidable.not_not.1 h4
    show ((at0 u 0 : Nat) : Int) = 46
    omega)
  refine sgo ?_
  have hdl : (u.drop 1).length = u.length - 1 := List.length_drop
  refine wlpure (digits_ok (u.drop 1) (by omega) _) fun w2 hf2 => ?_
  have hk2 := digN_le (u.drop 1)
  rw [hdl] at hk2
  generalize digN (u.drop 1) = j at *
  have hf12 := hf1.trans hf2
  refine sgo ?_
  (first | refine fp1 (.inl rfl) rfl rfl ?_ | refine fp2 (.inl rfl) rfl rfl rfl ?_ | refine fp3 (.inl rfl) rfl rfl rfl rfl ?_ | refine fp0 (.inr rfl) rfl ?_ | refine fp0 (.inl rfl) rfl ?_ | refine fp1 (.inr rfl) rfl rfl ?_); refine ⟨?_, by (first | exact Frm.refl _ | assumption | exact Go.Sv.Sep.frm (by assumption) | (refine Frm.trans ?_ (by assumption); first | exact Frm.refl _ | assumption))⟩; (try simp only [realB, rv_true, Nat.reduceBEq, cond_true, cond_false, entG, real_lif, updGL])
  refine congrArg Value.bool ?_
  rw [Bool.eq_iff_iff]
  simp only [pkb_and, Bool.and_eq_true, decide_eq_true_eq]
  constructor
  · rintro ⟨⟨a1, a2⟩, a3⟩; exact ⟨by omega, by omega, a3⟩
  · rintro ⟨a1, a2, a3⟩; exact ⟨⟨by omega, by omega⟩, a3⟩
set_option maxHeartbeats 1000000 in
theorem numeral_ok (b : List UInt8) (hb : b.length ≤ 1073741824) (w : World) : PureC Tryd.prog 97 #[str b] w (.bool (numR b)) := by
  refine enter (l := [str b]) Tryd.func97 rfl Tryd.ntmps97 (by kernel_rfl) rfl ?_
  refine sgo ?_
  by_cases h1 : ¬ (1 ≤ b.length ∧ b.length ≤ 9)
  · have hn : numR b = false := by unfold numR; rw [decide_eq_false h1]; rfl
    rw [hn]
    refine wcyes ?_ (ht := by simp only [pkb_or, Bool.or_eq_true, decide_eq_true_eq]; omega)
    refine sgo ?_
    (first | refine fp1 (.inl rfl) rfl rfl ?_ | refine fp2 (.inl rfl) rfl rfl rfl ?_ | refine fp3 (.inl rfl) rfl rfl rfl rfl ?_ | refine fp0 (.inr rfl) rfl ?_ | refine fp0 (.inl rfl) rfl ?_ | refine fp1 (.inr rfl) rfl rfl ?_); refine ⟨?_, by (first | exact Frm.refl _ | assumption | exact Go.Sv.Sep.frm (by assumption) | (refine Frm.trans ?_ (by assumption); first | exact Frm.refl _ | assumption))⟩; (try simp only [realB, rv_true, Nat.reduceBEq, cond_true, cond_false, entG, real_lif, updGL])
  have hn : numR b = b.all fun c => digitR c.toNat := by unfold numR; rw [decide_eq_true (Decidable.not_not.1 h1)]; rfl
  rw [hn]
  refine wcno ?_ (ht := by simp only [pkb_or, Bool.or_eq_false_iff, decide_eq_false_iff_not]; omega)
  refine sgo ?_
  refine wcloop (X := Nat) (fun i => [(0, str b), (13, int b.length), (14, int i)])
    (fun i wr => i ≤ b.length ∧ ((b.all fun c => digitR c.toNat) = (b.drop i).all fun c => digitR c.toNat) ∧ Frm w wr) (fun i => b.length - i) 0 ⟨rfl, rfl, rfl, trivial⟩ ⟨Nat.zero_le _, rfl, Frm.refl _⟩ ?_
  rintro i wr ρ ⟨hil, ha, hfr⟩
  refine sgo ?_
  (show WC _ _ _ _ _ _ _; first | refine WC_dec rfl (fun hc => ?_) (fun hc => ?_) | refine WC_cond rfl (fun hc => ?_) (fun hc => ?_))
  · have hlt : i < b.length := by omega
    clear hc
    obtain ⟨ch, hx⟩ : ∃ ch, b[i]? = some ch := ⟨_, List.getElem?_eq_getElem hlt⟩
    have hg : b[i]?.getD 0 = ch := by rw [hx]; rfl
    rw [drop_at hx, List.all_cons] at ha
    refine sgo ?_
    simp only [hg]
    refine wlpure (digit4_ok ch.toNat _) fun w3 hf3 => ?_
    replace hfr := hfr.trans hf3
    cases hd : digitR ch.toNat with
    | true =>
      rw [hd, Bool.true_and] at ha
      refine sgo ?_
      exact ⟨i + 1, ⟨rfl, rfl, rfl, trivial⟩, ⟨hlt, ha, hfr⟩, by omega⟩
    | false =>
      rw [hd, Bool.false_and] at ha
      rw [ha]
      refine sgo ?_
      (first | refine fp1 (.inl rfl) rfl rfl ?_ | refine fp2 (.inl rfl) rfl rfl rfl ?_ | refine fp3 (.inl rfl) rfl rfl rfl rfl ?_ | refine fp0 (.inr rfl) rfl ?_ | refine fp0 (.inl rfl) rfl ?_ | refine fp1 (.inr rfl) rfl rfl ?_); refine ⟨?_, by (first | exact Frm.refl _ | assumption | exact Go.Sv.Sep.frm (by assumption) | (refine Frm.trans ?_ (by assumption); first | exact Frm.refl _ | assumption))⟩; (try simp only [realB, rv_true, Nat.reduceBEq, cond_true, cond_false, entG, real_lif, updGL])
  · obtain rfl : i = b.length := by omega
    rw [List.drop_length] at ha
    rw [ha]
    refine sgo ?_
    (first | refine fp1 (.inl rfl) rfl rfl ?_ | refine fp2 (.inl rfl) rfl rfl rfl ?_ | refine fp3 (.inl rfl) rfl rfl rfl rfl ?_ | refine fp0 (.inr rfl) rfl ?_ | refine fp0 (.inl rfl) rfl ?_ | refine fp1 (.inr rfl) rfl rfl ?_); refine ⟨?_, by (first | exact Frm.refl _ | assumption | exact Go.Sv.Sep.frm (by assumption) | (refine Frm.trans ?_ (by assumption); first | exact Frm.refl _ | assumption))⟩; (try simp only [realB, rv_true, Nat.reduceBEq, cond_true, cond_false, entG, real_lif, updGL])
    rfl
set_option maxHeartbeats 1000000 in
theorem refGood_ok (v : List UInt8) (hb : v.length ≤ 1073741824) (w : World) : PureC Tryd.prog 68 #[str v] w (.bool (goodL v)) := by
  rw [← good_eq]
  unfold goodQ
  refine enter (l := [str v]) Tryd.func68 rfl Tryd.ntmps68 (by kernel_rfl) rfl ?_
  refine sgo ?_
  by_cases h0 : v = []
  · rw [if_pos h0]
    refine wcyes ?_ (ht := by simp [h0])
    refine sgo ?_
    (first | refine fp1 (.inl rfl) rfl rfl ?_ | refine fp2 (.inl rfl) rfl rfl rfl ?_ | refine fp3 (.inl rfl) rfl rfl rfl rfl ?_ | refine fp0 (.inr rfl) rfl ?_ | refine fp0 (.inl rfl) rfl ?_ | refine fp1 (.inr rfl) rfl rfl ?_); refine ⟨?_, by (first | exact Frm.refl _ | assumption | exact Go.Sv.Sep.frm (by assumption) | (refine Frm.trans ?_ (by assumption); first | exact Frm.refl _ | assumption))⟩; (try simp only [realB, rv_true, Nat.reduceBEq, cond_true, cond_false, entG, real_lif, updGL])
  rw [if_neg h0]
  have hl : 0 < v.length := List.length_pos_iff.2 h0
  refine wcno ?_ (ht := by simp [h0])
  refine sgo ?_
  refine wcdraw ?_
  refine qgo ?_
  refine QL_nil ?_
  intro wd hwd
  have hgz : ((v.length : Int) - 1).toNat = v.length - 1 := by omega
  have hg : (v[v.length - 1]?.getD 0).toNat = at0 v (v.length - 1) := rfl
  simp only [hgz, hg]
  have hbl : (v.take (v.length - 1)).length ≤ v.length := by rw [List.length_take]; omega
  generalize at0 v (v.length - 1) = c at *
  generalize v.take (v.length - 1) = b at *
  refine sgo ?_
  by_cases h1 : c ≠ 119 ∧ c ≠ 120
  · rw [if_pos h1]
    refine wcyes ?_ (ht := by simp only [pkb_and, Bool.and_eq_true, decide_eq_true_eq]; omega)
    refine sgo ?_
    (first | refine fp1 (.inl rfl) rfl rfl ?_ | refine fp2 (.inl rfl) rfl rfl rfl ?_ | refine fp3 (.inl rfl) rfl rfl rfl rfl ?_ | refine fp0 (.inr rfl) rfl ?_ | refine fp0 (.inl rfl) rfl ?_ | refine fp1 (.inr rfl) rfl rfl ?_); refine ⟨?_, by (first | exact Frm.refl _ | assumption | exact Go.Sv.Sep.frm (by assumption) | (refine Frm.trans ?_ (by assumption); first | exact Frm.refl _ | assumption))⟩; (try simp only [realB, rv_true, Nat.reduceBEq, cond_true, cond_false, entG, real_lif, updGL])
  rw [if_neg h1]
  refine wcno ?_ (ht := by simp only [pkb_and, Bool.and_eq_false_iff, decide_eq_false_iff_not]; omega)
  refine sgo ?_
  refine wlpure (numeral_ok b (by omega) _) fun w1 hf1 => ?_
  have hf01 := hwd.trans hf1
  cases hn : numR b with
  | true =>
    rw [if_pos rfl]
    refine sgo ?_
    (first | refine fp1 (.inl rfl) rfl rfl ?_ | refine fp2 (.inl rfl) rfl rfl rfl ?_ | refine fp3 (.inl rfl) rfl rfl rfl rfl ?_ | refine fp0 (.inr rfl) rfl ?_ | refine fp0 (.inl rfl) rfl ?_ | refine fp1 (.inr rfl) rfl rfl ?_); refine ⟨?_, by (first | exact Frm.refl _ | assumption | exact Go.Sv.Sep.frm (by assumption) | (refine Frm.trans ?_ (by assumption); first | exact Frm.refl _ | assumption))⟩; (try simp only [realB, rv_true, Nat.reduceBEq, cond_true, cond_false, entG, real_lif, updGL])
  | false =>
    rw [if_neg Bool.false_ne_true]
    refine sgo ?_
    refine wlpure (upTo_ok b [46] (by omega) (by decide) _) fun w2 hf2 => ?_
    have hf02 := hf01.trans hf2
    have hud := upR_le b [46]
    generalize upR b [46] = d at *
    have htk : (b.take d).length ≤ b.length := by rw [List.length_take]; omega
    have hdr : (b.drop (d + 1)).length ≤ b.length := by rw [List.length_drop]; omega
    by_cases hdb : d < b.length
    · refine sgo ?_
      refine wlcallgp (vals := [str (b.take d)]) (fun _ => numeral_ok _ (by omega) _) fun w3 hf3 => ?_
      have hf03 := hf02.trans hf3
      refine sgo ?_
      refine wlcallgp (vals := [str (b.drop (d + 1))]) (fun _ => numeral_ok _ (by omega) _) fun w4 hf4 => ?_
      have hf04 := hf03.trans hf4
      refine sgo ?_
      (first | refine fp1 (.inl rfl) rfl rfl ?_ | refine fp2 (.inl rfl) rfl rfl rfl ?_ | refine fp3 (.inl rfl) rfl rfl rfl rfl ?_ | refine fp0 (.inr rfl) rfl ?_ | refine fp0 (.inl rfl) rfl ?_ | refine fp1 (.inr rfl) rfl rfl ?_); refine ⟨?_, by (first | exact Frm.refl _ | assumption | exact Go.Sv.Sep.frm (by assumption) | (refine Frm.trans ?_ (by assumption); first | exact Frm.refl _ | assumption))⟩; (try simp only [realB, rv_true, Nat.reduceBEq, cond_true, cond_false, entG, real_lif, updGL])
      refine congrArg Value.bool ?_
      rw [Bool.eq_iff_iff]
      simp only [pkb_and, Bool.and_eq_true, decide_eq_true_eq]
      have e1 : ((c : Int) = 120) ↔ c = 120 := by omega
      have e2 : ((d : Int) < b.length) ↔ d < b.length := by omega
      rw [e1, e2]
    · refine sgo ?_
      refine wlcallgp (vals := [str (b.take d)]) (fun _ => numeral_ok _ (by omega) _) fun w3 hf3 => ?_
      have hf03 := hf02.trans hf3
      have hdf : decide ((d : Int) < b.length) = false := decide_eq_false (by omega)
      simp only [hdf]
      refine sgo ?_
      refine wlcallgp (vals := [str (b.drop (d + 1))]) (fun _ => numeral_ok _ (by omega) _) fun w4 hf4 => ?_
      have hf04 := hf03.trans hf4
      refine sgo ?_
      (first | refine fp1 (.inl rfl) rfl rfl ?_ | refine fp2 (.inl rfl) rfl rfl rfl ?_ | refine fp3 (.inl rfl) rfl rfl rfl rfl ?_ | refine fp0 (.inr rfl) rfl ?_ | refine fp0 (.inl rfl) rfl ?_ | refine fp1 (.inr rfl) rfl rfl ?_); refine ⟨?_, by (first | exact Frm.refl _ | assumption | exact Go.Sv.Sep.frm (by assumption) | (refine Frm.trans ?_ (by assumption); first | exact Frm.refl _ | assumption))⟩; (try simp only [realB, rv_true, Nat.reduceBEq, cond_true, cond_false, entG, real_lif, updGL])
      refine congrArg Value.bool ?_
      rw [decide_eq_false (show ¬ (c = 120 ∧ d < b.length) by omega)]
      simp [pkb_and]
/-! ## the end of a descriptor -/
def parC (b : Bool) (c : UInt8) : Bool := if c = 40 then true else if c = 41 then false else b
def descG : Bool → List UInt8 → Nat
  | _, [] => 0
  | b, c :: l => if c = 44 ∧ b = false then 0 else 1 + descG (parC b c) l
theorem descG_le : ∀ (l : List UInt8) (b : Bool), descG b l ≤ l.length
  | [], _ => Nat.le_refl _
  | c :: l, b => by
    have := descG_le l (parC b c)
    unfold descG
    split
    · omega
    · rw [List.length_cons]; omega
def descN (l : List UInt8) : Nat := descG false l
def descV (l : List UInt8) : Value := .tuple #[str (sqR (l.take (descN l))), int (if descN l < l.length then descN l + 1 else l.length : Nat)]
set_option maxHeartbeats 1000000 in
theorem descriptor_ok (l : List UInt8) (hb : l.length ≤ 16777216) (w : World) : PureC Tryd.prog 62 #[str l] w (descV l) := by
  refine enter (l := [str l]) Tryd.func62 rfl Tryd.ntmps62 (by kernel_rfl) rfl ?_
  refine sgo ?_
  refine wcloop (X := Nat × Bool) (fun x => [(0, str l), (4, .bool x.2), (7, int l.length), (8, int x.1)])
    (fun x wr => x.1 ≤ l.length ∧ descN l = x.1 + descG x.2 (l.drop x.1) ∧ Frm w wr) (fun x => l.length - x.1) (0, false) ⟨rfl, rfl, rfl, rfl, trivial⟩ ⟨Nat.zero_le _, by simp [descN], Frm.refl _⟩ ?_
  rintro ⟨i, b⟩ wr ρ ⟨hil, hd, hfr⟩
  dsimp only at hil hd ⊢
  refine sgo ?_
  (show WC _ _ _ _ _ _ _; first | refine WC_dec rfl (fun hc => ?_) (fun hc => ?_) | refine WC_cond rfl (fun hc => ?_) (fun hc => ?_))
  · have hlt : i < l.length := by omega
    clear hc
    obtain ⟨ch, hx⟩ : ∃ ch, l[i]? = some ch := ⟨_, List.getElem?_eq_getElem hlt⟩
    have hg : l[i]?.getD 0 = ch := by rw [hx]; rfl
    rw [drop_at hx] at hd
    unfold descG parC at hd
    have h256 := ch.toNat_lt
    have e40 : ((ch.toNat : Int) = 40) ↔ ch = 40 := by rw [← UInt8.toNat_inj]; show _ ↔ ch.toNat = 40; omega
    have e41 : ((ch.toNat : Int) = 41) ↔ ch = 41 := by rw [← UInt8.toNat_inj]; show _ ↔ ch.toNat = 41; omega
    have e44 : ((ch.toNat : Int) = 44) ↔ ch = 44 := by rw [← UInt8.toNat_inj]; show _ ↔ ch.toNat = 44; omega
    refine sgo ?_
    simp only [hg]
    by_cases h40 : ch = 40
    · subst h40
      rw [if_neg (by simp), if_pos rfl] at hd
      refine wcyes ?_ (ht := by rfl)
      refine sgo ?_
      exact ⟨(i + 1, true), ⟨rfl, rfl, rfl, rfl, trivial⟩, ⟨hlt, by dsimp only; omega, hfr⟩, by dsimp only; omega⟩
    refine wcno ?_ (ht := decide_eq_false (fun e => h40 (e40.1 e)))
    rw [if_neg h40] at hd
    refine sgo ?_
    simp only [hg]
    by_cases h41 : ch = 41
    · subst h41
      rw [if_neg (by simp), if_pos rfl] at hd
      refine wcyes ?_ (ht := by rfl)
      refine sgo ?_
      exact ⟨(i + 1, false), ⟨rfl, rfl, rfl, rfl, trivial⟩, ⟨hlt, by dsimp only; omega, hfr⟩, by dsimp only; omega⟩
    refine wcno ?_ (ht := decide_eq_false (fun e => h41 (e41.1 e)))
    rw [if_neg h41] at hd
    refine sgo ?_
    simp only [hg]
    by_cases h44 : ch = 44 ∧ b = false
    · rw [if_pos h44] at hd
      obtain ⟨rfl, rfl⟩ := h44
      refine wcyes ?_ (ht := by rfl)
      have hlt2 : (l.take i).length ≤ l.length := by rw [List.length_take]; omega
      refine sgo ?_
      refine wlpure (squeeze_ok (l.take i) (by omega) _) fun w3 hf3 => ?_
      replace hfr := hfr.trans hf3
      refine sgo ?_
      (first | refine fp1 (.inl rfl) rfl rfl ?_ | refine fp2 (.inl rfl) rfl rfl rfl ?_ | refine fp3 (.inl rfl) rfl rfl rfl rfl ?_ | refine fp0 (.inr rfl) rfl ?_ | refine fp0 (.inl rfl) rfl ?_ | refine fp1 (.inr rfl) rfl rfl ?_); refine ⟨?_, by (first | exact Frm.refl _ | assumption | exact Go.Sv.Sep.frm (by assumption) | (refine Frm.trans ?_ (by assumption); first | exact Frm.refl _ | assumption))⟩; (try simp only [realB, rv_true, Nat.reduceBEq, cond_true, cond_false, entG, real_lif, updGL])
      have e : descN l = i := by omega
      unfold descV
      rw [e, if_pos hlt]
      rfl
    · rw [if_neg h44] at hd
      refine wcno ?_ (ht := by
        cases b with
        | true => simp [pkb_and]
        | false => simp only [pkb_and, Bool.not_false, Bool.and_true, decide_eq_false_iff_not]; exact fun e => h44 ⟨e44.1 e, rfl⟩)
      refine sgo ?_
      exact ⟨(i + 1, b), ⟨rfl, rfl, rfl, rfl, trivial⟩, ⟨hlt, by dsimp only; omega, hfr⟩, by dsimp only; omega⟩
  · obtain rfl : i = l.length := by omega
    have e : descN l = l.length := by rw [hd, List.drop_length]; rfl
    clear hc
    refine sgo ?_
    refine wlpure (squeeze_ok l (by omega) _) fun w3 hf3 => ?_
    replace hfr := hfr.trans hf3
    refine sgo ?_
    (first | refine fp1 (.inl rfl) rfl rfl ?_ | refine fp2 (.inl rfl) rfl rfl rfl ?_ | refine fp3 (.inl rfl) rfl rfl rfl rfl ?_ | refine fp0 (.inr rfl) rfl ?_ | refine fp0 (.inl rfl) rfl ?_ | refine fp1 (.inr rfl) rfl rfl ?_); refine ⟨?_, by (first | exact Frm.refl _ | assumption | exact Go.Sv.Sep.frm (by assumption) | (refine Frm.trans ?_ (by assumption); first | exact Frm.refl _ | assumption))⟩; (try simp only [realB, rv_true, Nat.reduceBEq, cond_true, cond_false, entG, real_lif, updGL])
    unfold descV
    rw [e, List.take_length, if_neg (Nat.lt_irrefl _)]
/-! ## commas at a text's end -/
def trimC (u : List UInt8) : List UInt8 := (u.reverse.dropWhile fun c => decide (c = 44)).reverse
theorem trimC_snoc (y : List UInt8) (c : UInt8) : trimC (y ++ [c]) = if c = 44 then trimC y else y ++ [c] := by
  unfold trimC
  rw [List.reverse_append, List.reverse_cons, List.reverse_nil, List.nil_append, List.cons_append, List.nil_append, List.dropWhile_cons]
  split
  · rename_i h; rw [if_pos (by simpa using h)]
  · rename_i h; rw [if_neg (by simpa using h)]; simp
theorem hasSuffix_ok (s p : List UInt8) (hb : s.length ≤ 1073741824) (w : World) : PureC Tryd.prog 60 #[str s, str p] w (.bool (Lib.hasSuffix s p)) := by
  refine Calls.mono (Tryd.strings_HasSuffix ⟨s.toArray⟩ ⟨p.toArray⟩ w (by rw [size_str]; omega)) ?_
  rintro e w' ⟨rfl, rfl⟩
  exact ⟨_, rfl, rfl, Frm.refl _⟩
set_option maxHeartbeats 1000000 in
theorem trimByte_ok (s : List UInt8) (c0 : Int) (hc0 : c0 = 44) (hb : s.length ≤ 1073741824) (w : World) : PureC Tryd.prog 90 #[str s, byt c0] w (str (trimC s)) := by
  subst hc0
  refine enter (l := [str s, byt 44]) Tryd.func90 rfl Tryd.ntmps90 (by kernel_rfl) rfl ?_
  refine sgo ?_
  refine wcloop (X := List UInt8) (fun x => [(0, str x), (1, byt 44)]) (fun x wr => trimC x = trimC s ∧ x.length ≤ s.length ∧ Frm w wr) (fun x => x.length) s ⟨rfl, rfl, trivial⟩ ⟨rfl, Nat.le_refl _, Frm.refl _⟩ ?_
  rintro x wr ρ ⟨hx, hxl, hfr⟩
  rcases List.eq_nil_or_concat x with rfl | ⟨y, c, rfl⟩
  · rw [← hx]
    refine sgo ?_
    (first | refine fp1 (.inl rfl) rfl rfl ?_ | refine fp2 (.inl rfl) rfl rfl rfl ?_ | refine fp3 (.inl rfl) rfl rfl rfl rfl ?_ | refine fp0 (.inr rfl) rfl ?_ | refine fp0 (.inl rfl) rfl ?_ | refine fp1 (.inr rfl) rfl rfl ?_); refine ⟨?_, by (first | exact Frm.refl _ | assumption | exact Go.Sv.Sep.frm (by assumption) | (refine Frm.trans ?_ (by assumption); first | exact Frm.refl _ | assumption))⟩; (try simp only [realB, rv_true, Nat.reduceBEq, cond_true, cond_false, entG, real_lif, updGL])
    rfl
  · rw [List.concat_eq_append] at *
    rw [trimC_snoc] at hx
    have hyl : (y ++ [c]).length = y.length + 1 := by simp
    have hg : (y ++ [c])[((y ++ [c]).length - 1 : Int).toNat]?.getD 0 = c := by
      rw [hyl, show ((y.length + 1 : Nat) - 1 : Int).toNat = y.length by omega, List.getElem?_append_right (Nat.le_refl _)]
      simp
    refine sgo ?_
    simp only [hg]
    by_cases hc : c = 44
    · subst hc
      rw [if_pos rfl] at hx
      refine wcyes ?_ (ht := by rw [hyl]; simp only [pkb_and, Bool.and_eq_true, decide_eq_true_eq]; exact ⟨by omega, rfl⟩)
      refine sgo ?_
      refine ⟨y, ⟨?_, rfl, trivial⟩, ⟨hx, by omega, hfr⟩, by omega⟩
      show str _ = str _
      rw [hyl, show ((y.length + 1 : Nat) - 1 : Int).toNat = y.length by omega, List.take_left]
    · rw [if_neg hc] at hx
      have e44 : ¬ ((c.toNat : Int) = 44) := fun e => hc (UInt8.toNat_inj.1 (show c.toNat = 44 by omega))
      refine wcno ?_ (ht := by simp only [pkb_and, Bool.and_eq_false_iff, decide_eq_false_iff_not]; exact .inr e44)
      rw [← hx]
      refine sgo ?_
      (first | refine fp1 (.inl rfl) rfl rfl ?_ | refine fp2 (.inl rfl) rfl rfl rfl ?_ | refine fp3 (.inl rfl) rfl rfl rfl rfl ?_ | refine fp0 (.inr rfl) rfl ?_ | refine fp0 (.inl rfl) rfl ?_ | refine fp1 (.inr rfl) rfl rfl ?_); refine ⟨?_, by (first | exact Frm.refl _ | assumption | exact Go.Sv.Sep.frm (by assumption) | (refine Frm.trans ?_ (by assumption); first | exact Frm.refl _ | assumption))⟩; (try simp only [realB, rv_true, Nat.reduceBEq, cond_true, cond_false, entG, real_lif, updGL])
set_option maxHeartbeats 1000000 in
theorem trimRight0_ok (s m : List UInt8) (h0 : s ≠ []) (hm : m = [44]) (hb : s.length ≤ 1073741824) (w : World) : PureC Tryd.prog 61 #[str s, str m] w (str (trimC s)) := by
  have h1 : m.length = 1 := by rw [hm]; rfl
  have h2 : (m[0]?.getD 0).toNat = 44 := by rw [hm]; rfl
  have h3 : ¬ m = [] := by rw [hm]; simp
  clear hm
  refine enter (l := [str s, str m]) Tryd.func61 rfl Tryd.ntmps61 (by kernel_rfl) rfl ?_
  refine sgo ?_
  refine wcno ?_ (ht := by simp [h0, h3])
  refine sgo ?_
  refine wcyes ?_ (ht := by rw [h1, h2]; rfl)
  refine sgo ?_
  have h4 : ((m[0]?.getD 0).toNat : Int) = 44 := by omega
  refine wlpure (trimByte_ok s _ h4 hb _) fun w1 hf1 => ?_
  refine sgo ?_
  (first | refine fp1 (.inl rfl) rfl rfl ?_ | refine fp2 (.inl rfl) rfl rfl rfl ?_ | refine fp3 (.inl rfl) rfl rfl rfl rfl ?_ | refine fp0 (.inr rfl) rfl ?_ | refine fp0 (.inl rfl) rfl ?_ | refine fp1 (.inr rfl) rfl rfl ?_); refine ⟨?_, by (first | exact Frm.refl _ | assumption | exact Go.Sv.Sep.frm (by assumption) | (refine Frm.trans ?_ (by assumption); first | exact Frm.refl _ | assumption))⟩; (try simp only [realB, rv_true, Nat.reduceBEq, cond_true, cond_false, entG, real_lif, updGL])
theorem trimRight_ok (s : List UInt8) (h0 : s ≠ []) (hb : s.length ≤ 1073741824) (w : World) : PureC Tryd.prog 61 #[str s, str [44]] w (str (trimC s)) := trimRight0_ok s _ h0 rfl hb w
end Go.Proofs.YtffaoehhhdcjjaaDoor

/-
  Packages link, sieveref12: the candidates of a srcset, as a law of lists.
-/
set_option linter.unusedSimpArgs false
set_option linter.unusedVariables false
set_option linter.unnecessarySimpa false
namespace Go.Proofs.YtffaoehhhdcjjaaDoor
open Go Go.Sv Go.RowKit

def skC (c : UInt8) : Bool := whiteR c.toNat || decide (c = 44)
def skipR (l : List UInt8) : List UInt8 := l.dropWhile skC
def urlN (l : List UInt8) : Nat := (l.takeWhile fun c => !whiteR c.toNat).length
def comR (u : List UInt8) : Bool := decide (at0 u (u.length - 1) = 44)
def candO (s : List UInt8) : At :=
  if comR (s.take (urlN s)) = true then ⟨trimC (s.take (urlN s)), []⟩ else ⟨s.take (urlN s), sqR ((s.drop (urlN s)).take (descN (s.drop (urlN s))))⟩
def candT (s : List UInt8) : List UInt8 := if comR (s.take (urlN s)) = true then s.drop (urlN s) else (s.drop (urlN s)).drop (descN (s.drop (urlN s)))
def setsF : Nat → List UInt8 → List At
  | 0, _ => []
  | f + 1, l => if skipR l = [] then [] else candO (skipR l) :: setsF f (candT (skipR l))
def setsR (l : List UInt8) : List At := setsF l.length l
theorem urlN_le (l : List UInt8) : urlN l ≤ l.length := (List.takeWhile_sublist _).length_le
theorem urlN_at {s : List UInt8} {i : Nat} {c : UInt8} (h : s[i]? = some c) : urlN (s.drop i) = if whiteR c.toNat = true then 0 else 1 + urlN (s.drop (i + 1)) := by
  obtain ⟨hi, rfl⟩ := List.getElem?_eq_some_iff.1 h
  rw [List.drop_eq_getElem_cons hi]
  unfold urlN
  rw [List.takeWhile_cons]
  cases whiteR (s[i]).toNat with
  | true => simp
  | false => simp; omega
theorem skip_le (l : List UInt8) : (skipR l).length ≤ l.length := (List.dropWhile_sublist _).length_le
theorem skip_cons (c : UInt8) (l : List UInt8) : skipR (c :: l) = if skC c = true then skipR l else c :: l := by
  unfold skipR
  rw [List.dropWhile_cons]
theorem skip_head (l : List UInt8) (h : skipR l ≠ []) : ∃ c r, skipR l = c :: r ∧ whiteR c.toNat = false ∧ c ≠ 44 := by
  induction l with
  | nil => exact absurd rfl h
  | cons c l ih =>
    rw [skip_cons] at h ⊢
    split
    · rename_i hc
      rw [if_pos hc] at h
      exact ih h
    · rename_i hc
      refine ⟨c, l, rfl, ?_, ?_⟩
      · cases hw : whiteR c.toNat with
        | true => exact absurd (by unfold skC; rw [hw]; rfl) hc
        | false => rfl
      · intro e
        subst e
        exact hc rfl
theorem url_pos (l : List UInt8) (h : skipR l ≠ []) : 1 ≤ urlN (skipR l) := by
  obtain ⟨c, r, e, h1, h2⟩ := skip_head l h
  rw [e]
  unfold urlN
  rw [List.takeWhile_cons, h1]
  simp
theorem candT_lt (l : List UInt8) (h : skipR l ≠ []) : (candT (skipR l)).length < (skipR l).length := by
  have h1 := url_pos l h
  have h2 := urlN_le (skipR l)
  unfold candT
  split
  · rw [List.length_drop]; omega
  · rw [List.length_drop, List.length_drop]; omega
theorem setsF_fuel : ∀ (f g : Nat) (l : List UInt8), l.length ≤ f → l.length ≤ g → setsF f l = setsF g l
  | 0, g, l, h, _ => by
    obtain rfl : l = [] := List.eq_nil_of_length_eq_zero (by omega)
    cases g with
    | zero => rfl
    | succ g => simp [setsF, skipR]
  | f + 1, 0, l, _, h => by
    obtain rfl : l = [] := List.eq_nil_of_length_eq_zero (by omega)
    simp [setsF, skipR]
  | f + 1, g + 1, l, h1, h2 => by
    unfold setsF
    by_cases h : skipR l = []
    · rw [if_pos h, if_pos h]
    · rw [if_neg h, if_neg h]
      have h3 := candT_lt l h
      have h4 := skip_le l
      rw [setsF_fuel f g _ (by omega) (by omega)]
theorem sets_step (l : List UInt8) : setsR l = if skipR l = [] then [] else candO (skipR l) :: setsR (candT (skipR l)) := by
  by_cases h : skipR l = []
  · rw [if_pos h]
    unfold setsR
    cases l.length with
    | zero => rfl
    | succ n => unfold setsF; rw [if_pos h]
  · rw [if_neg h]
    have h3 := candT_lt l h
    have h4 := skip_le l
    obtain ⟨n, hn⟩ : ∃ n, l.length = n + 1 := ⟨l.length - 1, by omega⟩
    have e : setsR l = setsF (n + 1) l := by unfold setsR; rw [hn]
    rw [e]
    unfold setsF
    rw [if_neg h, setsF_fuel n (candT (skipR l)).length _ (by omega) (Nat.le_refl _)]
    rfl
theorem sets_cons (c : UInt8) (l : List UInt8) (h : skC c = true) : setsR (c :: l) = setsR l := by
  rw [sets_step (c :: l), skip_cons, if_pos h, ← sets_step]
theorem descG_stop : ∀ (l : List UInt8) (b : Bool), descG b l < l.length → l[descG b l]? = some 44
  | [], _, h => by cases h
  | c :: l, b, h => by
    unfold descG at h ⊢
    by_cases hc : c = 44 ∧ b = false
    · rw [if_pos hc]
      rw [hc.1]; rfl
    · rw [if_neg hc] at h ⊢
      rw [List.length_cons] at h
      rw [Nat.add_comm, List.getElem?_cons_succ]
      exact descG_stop l (parC b c) (by omega)
/-- whether the comma is passed over or not, the same candidates follow -/
theorem sets_desc (r : List UInt8) : setsR (r.drop (if descN r < r.length then descN r + 1 else r.length)) = setsR (r.drop (descN r)) := by
  split
  · rename_i h
    have hx := descG_stop r false h
    rw [drop_at (show r[descN r]? = some 44 from hx), sets_cons _ _ (by decide)]
  · rename_i h
    have := descG_le r false
    have e : descN r = r.length := by unfold descN at *; omega
    rw [e]
theorem com_snoc (y : List UInt8) (c : UInt8) : comR (y ++ [c]) = decide (c = 44) := by
  unfold comR
  refine decide_eq_decide.2 ?_
  have : at0 (y ++ [c]) ((y ++ [c]).length - 1) = c.toNat := by simp [at0]
  rw [this, ← UInt8.toNat_inj]
  exact Iff.rfl
theorem com_suffix (u : List UInt8) (h : u ≠ []) : Lib.hasSuffix u [44] = comR u := by
  obtain ⟨y, c, rfl⟩ : ∃ y c, u = y ++ [c] := ⟨u.dropLast, u.getLast h, (List.dropLast_concat_getLast h).symm⟩
  rw [com_snoc]
  unfold Lib.hasSuffix
  rw [Bool.eq_iff_iff, List.isSuffixOf_iff_suffix, decide_eq_true_eq]
  constructor
  · rintro ⟨t, ht⟩
    have := List.append_inj_right' ht rfl
    simp at this
    exact this.symm
  · rintro rfl
    exact List.suffix_append y [44]
/-! ## bounds -/
theorem sq_le (s : List UInt8) : (sqR s).length ≤ s.length := by
  have := sqF_len s
  unfold sqR; omega
/-! ## Srcset$1, IndexFunc, ContainsFunc -/
theorem notGood_ok (a : At) (hb : a.v.length ≤ 1073741824) (w : World) : PureC Tryd.prog 64 #[.agg ⟨a.cells⟩] w (.bool (!goodL a.v)) := by
  obtain ⟨n, v⟩ := a
  refine enter (l := [.agg ⟨At.cells ⟨n, v⟩⟩]) Tryd.func64 rfl Tryd.ntmps64 (by kernel_rfl) rfl ?_
  have hS := Sep.start w
  refine WC_seq ?_
  refine WC_region ?_
  refine sbox (v := .agg ⟨At.cells ⟨n, v⟩⟩) hS fun b2 w1 hS => ?_
  replace hS : Sep w w1 [pOwn b2 [str n, str v]] := hS
  refine sgo ?_
  refine wlpure (goodDesc_ok v hb _) fun w2 hf2 => ?_
  replace hS := hS.grow hf2
  refine sgo ?_
  (first | refine fp1 (.inl rfl) rfl rfl ?_ | refine fp2 (.inl rfl) rfl rfl rfl ?_ | refine fp3 (.inl rfl) rfl rfl rfl rfl ?_ | refine fp0 (.inr rfl) rfl ?_ | refine fp0 (.inl rfl) rfl ?_ | refine fp1 (.inr rfl) rfl rfl ?_); refine ⟨?_, by (first | exact Frm.refl _ | assumption | exact Go.Sv.Sep.frm (by assumption) | (refine Frm.trans ?_ (by assumption); first | exact Frm.refl _ | assumption))⟩; (try simp only [realB, rv_true, Nat.reduceBEq, cond_true, cond_false, entG, real_lif, updGL])
set_option maxHeartbeats 1000000 in
theorem indexBad_ok (es : List At) (p : Option Addr) (c : Nat) (hb : ∀ a ∈ es, a.v.length ≤ 1073741824) (hn : es.length ≤ 1073741824) (w : World) (hi : Im [] w p (es.flatMap At.cells)) :
    CallsR Tryd.prog 95 #[.slice p es.length c, .func (.func 64) #[] #[]] w fun v w' => ∃ z : Int, v = int z ∧ decide (0 ≤ z) = es.any (fun a => !goodL a.v) ∧ Frm w w' := by
  refine enter (l := [.slice p es.length c, .func (.func 64) #[] #[]]) Tryd.func95 rfl Tryd.ntmps95 (by kernel_rfl) rfl ?_
  refine sgo ?_
  refine wcloop (X := Nat) (fun i => [(0, .slice p es.length c), (1, .func (.func 64) #[] #[]), (7, int es.length), (8, int i)])
    (fun i wr => i ≤ es.length ∧ (es.any (fun a => !goodL a.v) = (es.drop i).any fun a => !goodL a.v) ∧ Frm w wr) (fun i => es.length - i) 0 ⟨rfl, rfl, rfl, rfl, trivial⟩ ⟨Nat.zero_le _, rfl, Frm.refl _⟩ ?_
  rintro i wr ρ ⟨hil, ha, hfr⟩
  refine sgo ?_
  (show WC _ _ _ _ _ _ _; first | refine WC_dec rfl (fun hc => ?_) (fun hc => ?_) | refine WC_cond rfl (fun hc => ?_) (fun hc => ?_))
  · have hlt : i < es.length := by omega
    clear hc
    have hSg := (hi.frm hfr).sg
    have hx : es[i]? = some es[i] := List.getElem?_eq_getElem hlt
    have hseg := fm_seg At.len es hx
    have hfl := fm_len At.len es
    have hps : ∃ q, p = some q := hSg.some (by omega)
    have hbx := hb es[i] (List.getElem_mem hlt)
    rw [List.drop_eq_getElem_cons hlt, List.any_cons] at ha
    generalize es[i] = x at *
    refine sgo ?_
    rw [hseg]
    refine wlcallv (f := 64) (first := []) (args := [.agg ⟨x.cells⟩]) (cap := []) (notGood_ok x hbx _) ?_
    rintro _ w2 ⟨rfl, hf2⟩
    replace hfr := hfr.trans hf2
    cases hg : goodL x.v with
    | true =>
      rw [hg] at ha
      refine sgo ?_
      exact ⟨i + 1, ⟨rfl, rfl, rfl, rfl, trivial⟩, ⟨hlt, by simpa using ha, hfr⟩, by omega⟩
    | false =>
      rw [hg] at ha
      refine sgo ?_
      (first | refine fp1 (.inl rfl) rfl rfl ?_ | refine fp2 (.inl rfl) rfl rfl rfl ?_ | refine fp3 (.inl rfl) rfl rfl rfl rfl ?_ | refine fp0 (.inr rfl) rfl ?_ | refine fp0 (.inl rfl) rfl ?_ | refine fp1 (.inr rfl) rfl rfl ?_)
      refine ⟨i, rfl, ?_, hfr⟩
      rw [ha]
      simp
  · obtain rfl : i = es.length := by omega
    rw [List.drop_length] at ha
    rw [ha]
    refine sgo ?_
    (first | refine fp1 (.inl rfl) rfl rfl ?_ | refine fp2 (.inl rfl) rfl rfl rfl ?_ | refine fp3 (.inl rfl) rfl rfl rfl rfl ?_ | refine fp0 (.inr rfl) rfl ?_ | refine fp0 (.inl rfl) rfl ?_ | refine fp1 (.inr rfl) rfl rfl ?_)
    exact ⟨-1, rfl, rfl, hfr⟩
theorem anyBad_ok (es : List At) (p : Option Addr) (c : Nat) (hb : ∀ a ∈ es, a.v.length ≤ 1073741824) (hn : es.length ≤ 1073741824) (w : World) (hi : Im [] w p (es.flatMap At.cells)) :
    PureC Tryd.prog 63 #[.slice p es.length c, .func (.func 64) #[] #[]] w (.bool (es.any fun a => !goodL a.v)) := by
  refine enter (l := [.slice p es.length c, .func (.func 64) #[] #[]]) Tryd.func63 rfl Tryd.ntmps63 (by kernel_rfl) rfl ?_
  refine sgo ?_
  refine wlcall (indexBad_ok es p c hb hn _ hi) ?_
  rintro _ w1 ⟨z, rfl, hz, hf1⟩
  refine sgo ?_
  (first | refine fp1 (.inl rfl) rfl rfl ?_ | refine fp2 (.inl rfl) rfl rfl rfl ?_ | refine fp3 (.inl rfl) rfl rfl rfl rfl ?_ | refine fp0 (.inr rfl) rfl ?_ | refine fp0 (.inl rfl) rfl ?_ | refine fp1 (.inr rfl) rfl rfl ?_); refine ⟨?_, by (first | exact Frm.refl _ | assumption | exact Go.Sv.Sep.frm (by assumption) | (refine Frm.trans ?_ (by assumption); first | exact Frm.refl _ | assumption))⟩; (try simp only [realB, rv_true, Nat.reduceBEq, cond_true, cond_false, entG, real_lif, updGL])
  exact congrArg Value.bool hz
end Go.Proofs.YtffaoehhhdcjjaaDoor

/-
  Package link: Srcset.
-/
set_option linter.unusedSimpArgs false
set_option linter.unusedVariables false
set_option linter.unnecessarySimpa false
namespace Go.Proofs.YtffaoehhhdcjjaaDoor
open Go Go.Sv Go.RowKit

theorem descN_le (r : List UInt8) : descN r ≤ r.length := descG_le r false
theorem candO_le (s : List UInt8) : (candO s).v.length ≤ s.length := by
  unfold candO
  split
  · simp
  · have := sq_le ((s.drop (urlN s)).take (descN (s.drop (urlN s))))
    rw [List.length_take, List.length_drop] at this
    dsimp only
    omega
set_option maxHeartbeats 8000000 in
theorem srcset_ok (q : List UInt8) (hb : q.length ≤ 1048576) (w : World) :
    CallsR Tryd.prog 26 #[str q] w fun v w' => ∃ p c, v = .tuple #[.slice p (setsR (mendR q)).length c, .bool (!(setsR (mendR q)).any fun a => !goodL a.v)] ∧ Sep w w' [pRow 2 p (setsR (mendR q)).length c ((setsR (mendR q)).flatMap At.cells)] := by
  have hS := Sep.start w
  have hml := mendR_len q
  refine enter (l := [str q]) Tryd.func26 rfl Tryd.ntmps26 (by kernel_rfl) rfl ?_
  refine sgo ?_
  refine wlpure (mend_ok q (by omega) _) fun w1 hf1 => ?_
  replace hS := hS.grow hf1
  obtain ⟨R, hR⟩ : ∃ R, setsR (mendR q) = R := ⟨_, rfl⟩
  rw [hR]
  generalize mendR q = t at *
  refine sgo ?_
  replace hS : Sep w w1 [pRow 2 none 0 0 []] := hS.nilRow 2
  refine wcloop (X := List UInt8 × Option Addr × Nat × List At) (fun x => [(4, str x.1), (5, .slice x.2.1 x.2.2.2.length x.2.2.1)])
    (fun x wr => x.2.2.2 ++ setsR x.1 = R ∧ x.2.2.2.length + x.1.length ≤ t.length ∧ (∀ a ∈ x.2.2.2, a.v.length ≤ t.length) ∧ Sep w wr [pRow 2 x.2.1 x.2.2.2.length x.2.2.1 (x.2.2.2.flatMap At.cells)]) (fun x => x.1.length) (t, none, 0, []) ⟨rfl, rfl, trivial⟩ ⟨hR, by simp, (fun a ha => by cases ha), hS⟩ ?_
  clear hS hR
  rintro ⟨l0, p, cc, out⟩ wr ρ ⟨hR, hol, hov, hS⟩
  dsimp only at hR hol hov hS ⊢
  refine sgo ?_
  refine wcloop (X := List UInt8) (fun l => [(4, str l), (5, .slice p out.length cc)])
    (fun l wr => skipR l = skipR l0 ∧ l.length ≤ l0.length ∧ Sep w wr [pRow 2 p out.length cc (out.flatMap At.cells)]) (fun l => l.length) l0 ⟨rfl, rfl, trivial⟩ ⟨rfl, Nat.le_refl _, hS⟩ ?_
  clear hS
  rintro l wr2 ρ2 ⟨hsk, hll, hS⟩
  by_cases hl : l = []
  · subst hl
    have hnil : setsR l0 = [] := by rw [sets_step, ← hsk]; rfl
    rw [hnil, List.append_nil] at hR
    subst hR
    refine sgo ?_
    refine wlcallgp (vals := [byt (7 : Nat)]) (fun _ => white_ok 7 _) (fun w3 hf3 => ?_) (ha := fun h => by simp at h)
    replace hS := hS.grow hf3
    refine sgo ?_
    refine wlpure (anyBad_ok out p cc (fun a ha => by have := hov a ha; omega) (by omega) _ (hS.im 0 rfl)) fun w4 hf4 => ?_
    replace hS := hS.grow hf4
    refine sgo ?_
    (first | refine fp1 (.inl rfl) rfl rfl ?_ | refine fp2 (.inl rfl) rfl rfl rfl ?_ | refine fp3 (.inl rfl) rfl rfl rfl rfl ?_ | refine fp0 (.inr rfl) rfl ?_ | refine fp0 (.inl rfl) rfl ?_ | refine fp1 (.inr rfl) rfl rfl ?_)
    exact ⟨p, cc, rfl, hS⟩
  · have hlp : 0 < l.length := List.length_pos_iff.2 hl
    obtain ⟨c, hx⟩ : ∃ c, l[0]? = some c := ⟨_, List.getElem?_eq_getElem hlp⟩
    have hg : l[0]?.getD 0 = c := by rw [hx]; rfl
    have hl1 : l = c :: l.drop 1 := by have := drop_at hx; rwa [List.drop_zero] at this
    refine sgo ?_
    simp only [hg]
    refine wlcallgp (vals := [byt c.toNat]) (fun _ => white_ok _ _) fun w3 hf3 => ?_
    replace hS := hS.grow hf3
    have hne : decide (l ≠ []) = true := decide_eq_true hl
    simp only [hne]
    have hdl : (l.drop 1).length = l.length - 1 := List.length_drop
    have hskc : ∀ h : skC c = true, skipR (l.drop 1) = skipR l0 := fun h => by
      rw [← hsk]
      conv => rhs; rw [hl1]
      rw [skip_cons, if_pos h]
    by_cases hsc : skC c = true
    · have hs1 := hskc hsc
      have hor : whiteR c.toNat = true ∨ c = 44 := by simpa [skC] using hsc
      refine sgo ?_
      simp only [hg]
      refine wcyes ?_ (ht := by
        rcases hor with h | h
        · rw [h]; rfl
        · subst h; rfl)
      refine sgo ?_
      exact ⟨l.drop 1, ⟨rfl, rfl, trivial⟩, ⟨hs1, by omega, hS⟩, by omega⟩
    have hs0 : skipR l0 = l := by
      rw [← hsk]
      conv => lhs; rw [hl1]
      rw [skip_cons, if_neg hsc, ← hl1]
    have hw : whiteR c.toNat = false := by
      cases hw : whiteR c.toNat with
      | true => exact absurd (by unfold skC; rw [hw]; rfl) hsc
      | false => rfl
    have hc44 : ¬ ((c.toNat : Int) = 44) := fun e => hsc (by
      have : c = 44 := UInt8.toNat_inj.1 (show c.toNat = 44 by omega)
      unfold skC; rw [decide_eq_true this, Bool.or_true])
    have hstep := sets_step l0
    have hup := url_pos l0 (by rw [hs0]; exact hl)
    have hlt := candT_lt l0 (by rw [hs0]; exact hl)
    rw [hs0] at hstep hup hlt
    rw [if_neg hl] at hstep
    rw [hstep] at hR
    have hov2 : (candO l).v.length ≤ t.length := by have := candO_le l; omega
    clear hstep hskc hsk hs0
    refine sgo ?_
    simp only [hg]
    refine wcno ?_ (ht := by rw [hw, decide_eq_false hc44]; rfl)
    clear hg hw hc44 hx hl1 hsc
    refine sgo ?_
    refine wcno ?_ (ht := by simp [hl])
    refine sgo ?_
    refine wcloop (X := Nat) (fun i => [(4, str l), (5, .slice p out.length cc), (6, int i)])
      (fun i wr => i ≤ l.length ∧ urlN l = i + urlN (l.drop i) ∧ Sep w wr [pRow 2 p out.length cc (out.flatMap At.cells)]) (fun i => l.length - i) 0 ⟨rfl, rfl, rfl, trivial⟩ ⟨Nat.zero_le _, by simp, hS⟩ ?_
    clear hS
    rintro i wr3 ρ3 ⟨hil, hu, hS⟩
    refine sgo ?_
    refine wlcallgp (vals := [byt (l[i]?.getD 0).toNat]) (fun _ => white_ok _ _) fun w4 hf4 => ?_
    replace hS := hS.grow hf4
    refine sgo ?_
    by_cases hh : i < l.length ∧ whiteR (l[i]?.getD 0).toNat = false
    · obtain ⟨h1, h2⟩ := hh
      have hx := List.getElem?_eq_getElem h1
      rw [urlN_at hx, if_neg (by rw [hx] at h2; rw [show (l[i]).toNat = ((some l[i]).getD 0).toNat from rfl, h2]; exact Bool.false_ne_true)] at hu
      refine wcyes ?_ (ht := by rw [h2, decide_eq_true (show (i : Int) < l.length by omega)]; rfl)
      refine sgo ?_
      exact ⟨i + 1, ⟨rfl, rfl, rfl, trivial⟩, ⟨h1, by omega, hS⟩, by omega⟩
    have hui : urlN l = i := by
      rcases Nat.lt_or_ge i l.length with h1 | h1
      · have hx := List.getElem?_eq_getElem h1
        have h2 : whiteR (l[i]).toNat = true := by
          cases h2 : whiteR (l[i]).toNat with
          | true => rfl
          | false => exact absurd ⟨h1, by rw [hx]; exact h2⟩ hh
        rw [urlN_at hx, if_pos h2] at hu
        exact hu
      · obtain rfl : i = l.length := by omega
        rw [List.drop_length] at hu
        exact hu
    refine wcno ?_ (ht := by
      rcases Nat.lt_or_ge i l.length with h1 | h1
      · have h2 : whiteR (l[i]?.getD 0).toNat = true := by
          cases h2 : whiteR (l[i]?.getD 0).toNat with
          | true => rfl
          | false => exact absurd ⟨h1, h2⟩ hh
        rw [h2, decide_eq_true (show (i : Int) < l.length by omega)]; rfl
      · rw [decide_eq_false (show ¬ (i : Int) < l.length by omega)]; rfl)
    clear hh hu
    obtain ⟨n, v, hcv⟩ : ∃ n v, candO l = ⟨n, v⟩ := ⟨_, _, rfl⟩
    have hct : candT l = if comR (l.take i) = true then l.drop i else (l.drop i).drop (descN (l.drop i)) := by unfold candT; rw [hui]
    have hco : candO l = if comR (l.take i) = true then ⟨trimC (l.take i), []⟩ else ⟨l.take i, sqR ((l.drop i).take (descN (l.drop i)))⟩ := by unfold candO; rw [hui]
    rw [hcv] at hco hov2
    rw [hui] at hup
    have hune : l.take i ≠ [] := by
      intro e
      have := congrArg List.length e
      rw [List.length_take, List.length_nil] at this
      omega
    have hul : (l.take i).length ≤ l.length := by rw [List.length_take]; omega
    have hrl : (l.drop i).length = l.length - i := List.length_drop
    refine sgo ?_
    refine wlbuild ?_
    refine salloc hS fun b7 w6 hS => ?_
    refine ssta (vs := [str (l.take i), str []]) hS 0 fun w7 hS => ?_
    replace hS : Sep w w7 [pOwn b7 [str (l.take i), str []], pRow 2 p out.length cc (out.flatMap At.cells)] := hS
    refine sgo ?_
    generalize hu0 : l.take i = u at *
    generalize hr0 : l.drop i = r at *
    refine wlpure (hasSuffix_ok u [44] (by omega) _) fun w8 hf8 => ?_
    replace hS := hS.grow hf8
    rw [com_suffix u hune]
    refine sgo ?_
    refine wcutt (X := List UInt8) (fun l2 => [(4, str l2), (5, .slice p out.length cc), (7, ptrAt (pb b7) 0)]) (fun l2 w' => setsR l2 = setsR (candT l) ∧ l2.length < l.length ∧ Sep w w' [pOwn b7 [str n, str v], pRow 2 p out.length cc (out.flatMap At.cells)]) ?_ ?_
    · cases hcm : comR u with
      | true =>
        rw [hcm, if_pos rfl] at hco hct
        injection hco with e1 e2
        subst e1 e2
        refine sgo ?_
        refine wlpure (trimRight_ok u hune (by omega) _) fun w9 hf9 => ?_
        replace hS := hS.grow hf9
        refine sgo ?_
        refine sst_str hS 0 fun w10 hS => ?_
        refine sgo ?_
        exact ⟨r, ⟨rfl, rfl, rfl, trivial⟩, by rw [hct], by omega, hS⟩
      | false =>
        rw [hcm, if_neg Bool.false_ne_true] at hco hct
        injection hco with e1 e2
        subst e1 e2
        have hsd := sets_desc r
        have hdn := descN_le r
        refine sgo ?_
        refine wlpure (descriptor_ok r (by omega) _) fun w9 hf9 => ?_
        replace hS := hS.grow hf9
        unfold descV
        have hkl : (if descN r < r.length then descN r + 1 else r.length) ≤ r.length := by split <;> omega
        generalize (if descN r < r.length then descN r + 1 else r.length) = k at *
        refine sgo ?_
        refine sst_str hS 0 fun w10 hS => ?_
        refine sgo ?_
        exact ⟨r.drop k, ⟨rfl, rfl, rfl, trivial⟩, by rw [hsd, hct], by rw [List.length_drop]; omega, hS⟩
    clear hS
    rintro l2 w11 ρ4 ⟨hs2, hl2, hS⟩
    refine sgo ?_
    refine sb1a (vs := [str n, str v]) hS fun b9 w12 hS => ?_
    refine sgo ?_
    refine sapp hS 2 (hS.own 0 rfl).sg (fun q' c' w13 hS => ?_) (hl := rfl) (h1 := by simp [Value.oneCell'])
    replace hS : Sep w w13 [pRow 2 q' (out.length + 1) c' (out.flatMap At.cells ++ [str n, str v])] := (hS.drop 1 rfl).drop 0 rfl
    have hfl : out.flatMap At.cells ++ [str n, str v] = (out ++ [candO l]).flatMap At.cells := by rw [List.flatMap_append, hcv]; rfl
    have hnl : out.length + 1 = (out ++ [candO l]).length := by simp
    rw [hfl, hnl] at hS
    rw [hnl]
    refine sgo ?_
    refine ⟨(l2, q', c', out ++ [candO l]), ⟨rfl, rfl, trivial⟩, ⟨?_, ?_, ?_, hS⟩, ?_⟩
    · rw [List.append_assoc, hs2]; exact hR
    · dsimp only; rw [List.length_append]; simp only [List.length_cons, List.length_nil]; omega
    · intro a ha
      rcases List.mem_append.1 ha with h | h
      · exact hov a h
      · obtain rfl := List.mem_singleton.1 h
        rw [hcv]; exact hov2
    · dsimp only; omega
end Go.Proofs.YtffaoehhhdcjjaaDoor

/-
  Package sieveref12: Srcset.
-/
set_option linter.unusedSimpArgs false
set_option linter.unusedVariables false
set_option linter.unnecessarySimpa false
namespace Go.Proofs.YtffaoehhhdcjjaaDoor
open Go Go.Sv Go.RowKit

theorem trimC_ne {c : UInt8} {r : List UInt8} (h : c ≠ 44) : trimC (c :: r) ≠ [] := by
  suffices hh : ∀ (k : Nat) (r : List UInt8), r.length = k → trimC (c :: r) ≠ [] from hh _ r rfl
  intro k
  induction k with
  | zero =>
    intro r hr
    obtain rfl := List.eq_nil_of_length_eq_zero hr
    rw [show [c] = [] ++ [c] from rfl, trimC_snoc, if_neg h]
    simp
  | succ k ih =>
    intro r hr
    rcases List.eq_nil_or_concat r with rfl | ⟨y, d, rfl⟩
    · cases hr
    · rw [List.concat_eq_append] at *
      rw [← List.cons_append, trimC_snoc]
      split
      · exact ih y (by simpa using hr)
      · simp
theorem okAll (l : List At) : (!l.any fun a => !goodL a.v) = l.all fun a => goodL a.v := by
  induction l with
  | nil => rfl
  | cons a l ih =>
    rw [List.any_cons, List.all_cons, ← ih]
    cases goodL a.v <;> simp
set_option maxHeartbeats 8000000 in
theorem refSrcset_ok (q : List UInt8) (hb : q.length ≤ 1048576) (w : World) :
    CallsR Tryd.prog 27 #[str q] w fun v w' => ∃ p c, v = .tuple #[.slice p (setsR (mendR q)).length c, .bool (!(setsR (mendR q)).any fun a => !goodL a.v)] ∧ Sep w w' [pRow 2 p (setsR (mendR q)).length c ((setsR (mendR q)).flatMap At.cells)] := by
  have hS := Sep.start w
  have hml := mendR_len q
  rw [okAll]
  refine enter (l := [str q]) Tryd.func27 rfl Tryd.ntmps27 (by kernel_rfl) rfl ?_
  refine sgo ?_
  refine wlpure (refMend_ok q (by omega) _) fun w1 hf1 => ?_
  replace hS := hS.grow hf1
  obtain ⟨R, hR⟩ : ∃ R, setsR (mendR q) = R := ⟨_, rfl⟩
  rw [hR]
  generalize mendR q = t at *
  refine sgo ?_
  replace hS : Sep w w1 [pRow 2 none 0 0 []] := hS.nilRow 2
  refine wcloop (X := List UInt8 × Option Addr × Nat × List At) (fun x => [(0, str x.1), (4, .slice x.2.1 x.2.2.2.length x.2.2.1), (5, .bool (x.2.2.2.all fun a => goodL a.v))])
    (fun x wr => x.2.2.2 ++ setsR x.1 = R ∧ x.2.2.2.length + x.1.length ≤ t.length ∧ Sep w wr [pRow 2 x.2.1 x.2.2.2.length x.2.2.1 (x.2.2.2.flatMap At.cells)]) (fun x => x.1.length) (t, none, 0, []) ⟨rfl, rfl, rfl, trivial⟩ ⟨hR, by simp, hS⟩ ?_
  clear hS hR
  rintro ⟨l0, p, cc, out⟩ wr ρ ⟨hR, hol, hS⟩
  dsimp only at hR hol hS ⊢
  obtain ⟨ok, hok⟩ : ∃ ok, (out.all fun a => goodL a.v) = ok := ⟨_, rfl⟩
  rw [hok]
  refine sgo ?_
  refine wcloop (X := List UInt8) (fun l => [(0, str l), (4, .slice p out.length cc), (5, .bool ok)])
    (fun l wr => skipR l = skipR l0 ∧ l.length ≤ l0.length ∧ Sep w wr [pRow 2 p out.length cc (out.flatMap At.cells)]) (fun l => l.length) l0 ⟨rfl, rfl, rfl, trivial⟩ ⟨rfl, Nat.le_refl _, hS⟩ ?_
  clear hS
  rintro l wr2 ρ2 ⟨hsk, hll, hS⟩
  by_cases hl : l = []
  · subst hl
    have hnil : setsR l0 = [] := by rw [sets_step, ← hsk]; rfl
    rw [hnil, List.append_nil] at hR
    subst hR
    refine sgo ?_
    refine wlcallgp (vals := [byt (7 : Nat)]) (fun _ => gap_ok 7 (by decide) _) (fun w3 hf3 => ?_) (ha := fun h => by simp at h)
    replace hS := hS.grow hf3
    refine sgo ?_
    (first | refine fp1 (.inl rfl) rfl rfl ?_ | refine fp2 (.inl rfl) rfl rfl rfl ?_ | refine fp3 (.inl rfl) rfl rfl rfl rfl ?_ | refine fp0 (.inr rfl) rfl ?_ | refine fp0 (.inl rfl) rfl ?_ | refine fp1 (.inr rfl) rfl rfl ?_)
    exact ⟨p, cc, by rw [hok]; rfl, hS⟩
  · have hlp : 0 < l.length := List.length_pos_iff.2 hl
    obtain ⟨c, hx⟩ : ∃ c, l[0]? = some c := ⟨_, List.getElem?_eq_getElem hlp⟩
    have hg : l[0]?.getD 0 = c := by rw [hx]; rfl
    have hl1 : l = c :: l.drop 1 := by have := drop_at hx; rwa [List.drop_zero] at this
    refine sgo ?_
    simp only [hg]
    refine wlcallgp (vals := [byt c.toNat]) (fun _ => gap_ok _ c.toNat_lt _) fun w3 hf3 => ?_
    replace hS := hS.grow hf3
    have hne : decide (l ≠ []) = true := decide_eq_true hl
    simp only [hne]
    have hdl : (l.drop 1).length = l.length - 1 := List.length_drop
    have hskc : ∀ h : skC c = true, skipR (l.drop 1) = skipR l0 := fun h => by
      rw [← hsk]
      conv => rhs; rw [hl1]
      rw [skip_cons, if_pos h]
    by_cases hsc : skC c = true
    · have hs1 := hskc hsc
      have hor : whiteR c.toNat = true ∨ c = 44 := by simpa [skC] using hsc
      refine sgo ?_
      simp only [hg]
      refine wcyes ?_ (ht := by
        rcases hor with h | h
        · rw [h]; rfl
        · subst h; rfl)
      refine sgo ?_
      exact ⟨l.drop 1, ⟨rfl, rfl, rfl, trivial⟩, ⟨hs1, by omega, hS⟩, by omega⟩
    have hs0 : skipR l0 = l := by
      rw [← hsk]
      conv => lhs; rw [hl1]
      rw [skip_cons, if_neg hsc, ← hl1]
    have hw : whiteR c.toNat = false := by
      cases hw : whiteR c.toNat with
      | true => exact absurd (by unfold skC; rw [hw]; rfl) hsc
      | false => rfl
    have hcn : c ≠ 44 := fun e => hsc (by unfold skC; rw [decide_eq_true e, Bool.or_true])
    have hc44 : ¬ ((c.toNat : Int) = 44) := fun e => hcn (UInt8.toNat_inj.1 (show c.toNat = 44 by omega))
    have hstep := sets_step l0
    have hup := url_pos l0 (by rw [hs0]; exact hl)
    have hlt := candT_lt l0 (by rw [hs0]; exact hl)
    rw [hs0] at hstep hup hlt
    rw [if_neg hl] at hstep
    rw [hstep] at hR
    have htn : ∀ i, 1 ≤ i → trimC (l.take i) ≠ [] := fun i h1 => by
      rw [hl1]
      obtain ⟨j, rfl⟩ : ∃ j, i = j + 1 := ⟨i - 1, by omega⟩
      rw [List.take_succ_cons]
      exact trimC_ne hcn
    clear hstep hskc hsk hs0
    refine sgo ?_
    simp only [hg]
    refine wcno ?_ (ht := by rw [hw, decide_eq_false hc44]; rfl)
    clear hg hw hc44 hx hl1 hsc
    refine sgo ?_
    refine wcno ?_ (ht := by simp [hl])
    refine sgo ?_
    refine wcloop (X := Nat) (fun i => [(0, str l), (4, .slice p out.length cc), (5, .bool ok), (6, int i)])
      (fun i wr => i ≤ l.length ∧ urlN l = i + urlN (l.drop i) ∧ Sep w wr [pRow 2 p out.length cc (out.flatMap At.cells)]) (fun i => l.length - i) 0 ⟨rfl, rfl, rfl, rfl, trivial⟩ ⟨Nat.zero_le _, by simp, hS⟩ ?_
    clear hS
    rintro i wr3 ρ3 ⟨hil, hu, hS⟩
    refine sgo ?_
    refine wlcallgp (vals := [byt (l[i]?.getD 0).toNat]) (fun _ => gap_ok _ (UInt8.toNat_lt _) _) fun w4 hf4 => ?_
    replace hS := hS.grow hf4
    refine sgo ?_
    by_cases hh : i < l.length ∧ whiteR (l[i]?.getD 0).toNat = false
    · obtain ⟨h1, h2⟩ := hh
      have hx := List.getElem?_eq_getElem h1
      rw [urlN_at hx, if_neg (by rw [hx] at h2; rw [show (l[i]).toNat = ((some l[i]).getD 0).toNat from rfl, h2]; exact Bool.false_ne_true)] at hu
      refine wcyes ?_ (ht := by rw [h2, decide_eq_true (show (i : Int) < l.length by omega)]; rfl)
      refine sgo ?_
      exact ⟨i + 1, ⟨rfl, rfl, rfl, rfl, trivial⟩, ⟨h1, by omega, hS⟩, by omega⟩
    have hui : urlN l = i := by
      rcases Nat.lt_or_ge i l.length with h1 | h1
      · have hx := List.getElem?_eq_getElem h1
        have h2 : whiteR (l[i]).toNat = true := by
          cases h2 : whiteR (l[i]).toNat with
          | true => rfl
          | false => exact absurd ⟨h1, by rw [hx]; exact h2⟩ hh
        rw [urlN_at hx, if_pos h2] at hu
        exact hu
      · obtain rfl : i = l.length := by omega
        rw [List.drop_length] at hu
        exact hu
    refine wcno ?_ (ht := by
      rcases Nat.lt_or_ge i l.length with h1 | h1
      · have h2 : whiteR (l[i]?.getD 0).toNat = true := by
          cases h2 : whiteR (l[i]?.getD 0).toNat with
          | true => rfl
          | false => exact absurd ⟨h1, h2⟩ hh
        rw [h2, decide_eq_true (show (i : Int) < l.length by omega)]; rfl
      · rw [decide_eq_false (show ¬ (i : Int) < l.length by omega)]; rfl)
    clear hh hu
    obtain ⟨n, v, hcv⟩ : ∃ n v, candO l = ⟨n, v⟩ := ⟨_, _, rfl⟩
    have hct : candT l = if comR (l.take i) = true then l.drop i else (l.drop i).drop (descN (l.drop i)) := by unfold candT; rw [hui]
    have hco : candO l = if comR (l.take i) = true then ⟨trimC (l.take i), []⟩ else ⟨l.take i, sqR ((l.drop i).take (descN (l.drop i)))⟩ := by unfold candO; rw [hui]
    have hvl : v.length ≤ l.length := by have := candO_le l; rw [hcv] at this; exact this
    rw [hcv] at hco
    rw [hui] at hup
    have hune : l.take i ≠ [] := by
      intro e
      have := congrArg List.length e
      rw [List.length_take, List.length_nil] at this
      omega
    have htn := htn i hup
    have hul : (l.take i).length ≤ l.length := by rw [List.length_take]; omega
    have hrl : (l.drop i).length = l.length - i := List.length_drop
    refine sgo ?_
    refine wlbuild ?_
    refine salloc hS fun b7 w6 hS => ?_
    refine ssta (vs := [str (l.take i), str []]) hS 0 fun w7 hS => ?_
    replace hS : Sep w w7 [pOwn b7 [str (l.take i), str []], pRow 2 p out.length cc (out.flatMap At.cells)] := hS
    generalize hu0 : l.take i = u at *
    have hup2 : 0 < u.length := List.length_pos_iff.2 hune
    refine sgo ?_
    generalize hr0 : l.drop i = r at *
    refine wcutt (X := List UInt8) (fun l2 => [(0, str l2), (4, .slice p out.length cc), (5, .bool ok), (7, ptrAt (pb b7) 0)]) (fun l2 w' => setsR l2 = setsR (candT l) ∧ l2.length < l.length ∧ Sep w w' [pOwn b7 [str n, str v], pRow 2 p out.length cc (out.flatMap At.cells)]) ?_ ?_
    · have hgz : ((u.length : Int) - 1).toNat = u.length - 1 := by omega
      have hgc : decide (((u[u.length - 1]?.getD 0).toNat : Int) = 44) = comR u := by
        unfold comR
        refine decide_eq_decide.2 ?_
        show ((at0 u (u.length - 1) : Nat) : Int) = 44 ↔ _
        omega
      simp only [hgz, hgc]
      cases hcm : comR u with
      | true =>
        rw [hcm, if_pos rfl] at hco hct
        injection hco with e1 e2
        subst e1 e2
        refine wcyes ?_ (ht := by rfl)
        refine sgo ?_
        refine wcloop (X := List UInt8) (fun x => [(0, str r), (4, .slice p out.length cc), (5, .bool ok), (7, ptrAt (pb b7) 0)])
          (fun x w' => trimC x = trimC u ∧ x.length ≤ u.length ∧ Sep w w' [pOwn b7 [str x, str []], pRow 2 p out.length cc (out.flatMap At.cells)]) (fun x => x.length) u ⟨rfl, rfl, rfl, rfl, trivial⟩ ⟨rfl, Nat.le_refl _, hS⟩ ?_
        clear hS
        rintro x w8 ρ4 ⟨htx, hxl, hS⟩
        rcases List.eq_nil_or_concat x with rfl | ⟨y, d, rfl⟩
        · exact absurd htx.symm htn
        rw [List.concat_eq_append] at *
        rw [trimC_snoc] at htx
        have hyl : (y ++ [d]).length = y.length + 1 := by simp
        have hg : (y ++ [d])[((y ++ [d]).length - 1 : Int).toNat]?.getD 0 = d := by
          rw [hyl, show ((y.length + 1 : Nat) - 1 : Int).toNat = y.length by omega, List.getElem?_append_right (Nat.le_refl _)]
          simp
        refine sgo ?_
        simp only [hg]
        by_cases hd : d = 44
        · subst hd
          rw [if_pos rfl] at htx
          refine wcyes ?_ (ht := by rfl)
          refine sgo ?_
          refine sst_str hS 0 fun w10 hS => ?_
          refine sgo ?_
          rw [hyl, show ((y.length + 1 : Nat) - 1 : Int).toNat = y.length by omega, List.take_left] at hS
          exact ⟨y, ⟨rfl, rfl, rfl, rfl, trivial⟩, ⟨htx, by omega, hS⟩, by omega⟩
        · rw [if_neg hd] at htx
          have e44 : ¬ ((d.toNat : Int) = 44) := fun e => hd (UInt8.toNat_inj.1 (show d.toNat = 44 by omega))
          refine wcno ?_ (ht := decide_eq_false e44)
          refine sgo ?_
          rw [htx] at hS
          exact ⟨r, ⟨rfl, rfl, rfl, rfl, trivial⟩, by rw [hct], by omega, hS⟩
      | false =>
        rw [hcm, if_neg Bool.false_ne_true] at hco hct
        injection hco with e1 e2
        subst e2
        refine wcno ?_ (ht := by rfl)
        refine sgo ?_
        refine wcloop (X := Nat × Bool) (fun x => [(0, str r), (4, .slice p out.length cc), (5, .bool ok), (7, ptrAt (pb b7) 0), (8, int x.1), (9, .bool x.2)])
          (fun x w' => x.1 ≤ r.length ∧ descN r = x.1 + descG x.2 (r.drop x.1) ∧ Sep w w' [pOwn b7 [str u, str []], pRow 2 p out.length cc (out.flatMap At.cells)]) (fun x => r.length - x.1) (0, false) ⟨rfl, rfl, rfl, rfl, rfl, rfl, trivial⟩ ⟨Nat.zero_le _, by simp [descN], hS⟩ ?_
        clear hS
        rintro ⟨j, b⟩ w8 ρ4 ⟨hjl, hd, hS⟩
        dsimp only at hjl hd hS ⊢
        by_cases hjr : j < r.length
        · obtain ⟨ch, hx⟩ : ∃ ch, r[j]? = some ch := ⟨_, List.getElem?_eq_getElem hjr⟩
          have hg : r[j]?.getD 0 = ch := by rw [hx]; rfl
          rw [drop_at hx] at hd
          unfold descG parC at hd
          have h256 := ch.toNat_lt
          have e40 : ((ch.toNat : Int) = 40) ↔ ch = 40 := by rw [← UInt8.toNat_inj]; show _ ↔ ch.toNat = 40; omega
          have e41 : ((ch.toNat : Int) = 41) ↔ ch = 41 := by rw [← UInt8.toNat_inj]; show _ ↔ ch.toNat = 41; omega
          have e44 : ((ch.toNat : Int) = 44) ↔ ch = 44 := by rw [← UInt8.toNat_inj]; show _ ↔ ch.toNat = 44; omega
          have hji : decide ((j : Int) < r.length) = true := decide_eq_true (by omega)
          by_cases h44 : ch = 44 ∧ b = false
          · rw [if_pos h44] at hd
            obtain ⟨rfl, rfl⟩ := h44
            have e : descN r = j := by omega
            refine sgo ?_
            refine wcno ?_ (ht := by rw [hji, hg]; first | rfl | decide)
            have hsl : (r.take j).length ≤ r.length := by rw [List.length_take]; omega
            refine sgo ?_
            refine wlpure (squeezed_ok (r.take j) (by omega) _) fun w9 hf9 => ?_
            replace hS := hS.grow hf9
            refine sgo ?_
            refine sst_str hS 0 fun w10 hS => ?_
            refine sgo ?_
            exact ⟨r.drop j, ⟨rfl, rfl, rfl, rfl, trivial⟩, by rw [hct, e], by rw [List.length_drop]; omega, by rw [e1, e]; exact hS⟩
          · rw [if_neg h44] at hd
            refine sgo ?_
            refine wcyes ?_ (ht := by
              rw [hji, hg]
              cases b with
              | true => rfl
              | false => rw [decide_eq_true (show ((ch.toNat : Int) ≠ 44) from fun e => h44 ⟨e44.1 e, rfl⟩)]; rfl)
            refine sgo ?_
            simp only [hg]
            by_cases h40 : ch = 40
            · rw [if_pos h40] at hd
              refine wcyes ?_ (ht := decide_eq_true (e40.2 h40))
              refine sgo ?_
              simp only [hg]
              refine wcno ?_ (ht := decide_eq_false (fun e => by have := e40.2 h40; omega))
              refine sgo ?_
              exact ⟨(j + 1, true), ⟨rfl, rfl, rfl, rfl, rfl, rfl, trivial⟩, ⟨hjr, by dsimp only; omega, hS⟩, by dsimp only; omega⟩
            rw [if_neg h40] at hd
            refine wcno ?_ (ht := decide_eq_false (fun e => h40 (e40.1 e)))
            refine sgo ?_
            simp only [hg]
            by_cases h41 : ch = 41
            · rw [if_pos h41] at hd
              refine wcyes ?_ (ht := decide_eq_true (e41.2 h41))
              refine sgo ?_
              exact ⟨(j + 1, false), ⟨rfl, rfl, rfl, rfl, rfl, rfl, trivial⟩, ⟨hjr, by dsimp only; omega, hS⟩, by dsimp only; omega⟩
            rw [if_neg h41] at hd
            refine wcno ?_ (ht := decide_eq_false (fun e => h41 (e41.1 e)))
            refine sgo ?_
            exact ⟨(j + 1, b), ⟨rfl, rfl, rfl, rfl, rfl, rfl, trivial⟩, ⟨hjr, by dsimp only; omega, hS⟩, by dsimp only; omega⟩
        · have e : descN r = j := by
            obtain rfl : j = r.length := by omega
            rw [hd, List.drop_length]; rfl
          have hji : decide ((j : Int) < r.length) = false := decide_eq_false (by omega)
          refine sgo ?_
          refine wcno ?_ (ht := by rw [hji]; rfl)
          have hsl : (r.take j).length ≤ r.length := by rw [List.length_take]; omega
          refine sgo ?_
          refine wlpure (squeezed_ok (r.take j) (by omega) _) fun w9 hf9 => ?_
          replace hS := hS.grow hf9
          refine sgo ?_
          refine sst_str hS 0 fun w10 hS => ?_
          refine sgo ?_
          exact ⟨r.drop j, ⟨rfl, rfl, rfl, rfl, trivial⟩, by rw [hct, e], by rw [List.length_drop]; omega, by rw [e1, e]; exact hS⟩
    clear hS
    rintro l2 w11 ρ4 ⟨hs2, hl2, hS⟩
    refine sgo ?_
    refine sb1a (vs := [str n, str v]) hS fun b9 w12 hS => ?_
    refine sgo ?_
    refine sapp hS 2 (hS.own 0 rfl).sg (fun q' c' w13 hS => ?_) (hl := rfl) (h1 := by simp [Value.oneCell'])
    replace hS : Sep w w13 [pOwn b7 [str n, str v], pRow 2 q' (out.length + 1) c' (out.flatMap At.cells ++ [str n, str v])] := hS.drop 0 rfl
    have hfl : out.flatMap At.cells ++ [str n, str v] = (out ++ [candO l]).flatMap At.cells := by rw [List.flatMap_append, hcv]; rfl
    have hnl : out.length + 1 = (out ++ [candO l]).length := by simp
    rw [hfl, hnl] at hS
    rw [hnl]
    refine sgo ?_
    refine wlcallgp (vals := [str v]) (fun _ => refGood_ok v (by omega) _) fun w14 hf14 => ?_
    replace hS := hS.grow hf14
    replace hS := hS.drop 0 rfl
    refine sgo ?_
    refine ⟨(l2, q', c', out ++ [candO l]), ⟨rfl, rfl, ?_, trivial⟩, ⟨?_, ?_, hS⟩, ?_⟩
    · show Value.bool _ = Value.bool _
      rw [List.all_append, hok, hcv]
      simp [pkb_and]
    · rw [List.append_assoc, hs2]; exact hR
    · dsimp only; rw [List.length_append]; simp only [List.length_cons, List.length_nil]; omega
    · dsimp only; omega
end Go.Proofs.YtffaoehhhdcjjaaDoor

/-
  Package sievelaw12: the document's examples.
-/
set_option linter.unusedSimpArgs false
set_option linter.unusedVariables false
set_option linter.unnecessarySimpa false
namespace Go.Proofs.YtffaoehhhdcjjaaDoor
open Go Go.Sv Go.RowKit

theorem aw1 : lowR ((stripR [32, 74, 97, 86, 97, 9, 115, 99, 114, 105, 112, 116, 58, 120]).take (schemeR (stripR [32, 74, 97, 86, 97, 9, 115, 99, 114, 105, 112, 116, 58, 120])).1) = [106, 97, 118, 97, 115, 99, 114, 105, 112, 116] := by decide +kernel
theorem aw2 : (schemeR (stripR [32, 74, 97, 86, 97, 9, 115, 99, 114, 105, 112, 116, 58, 120])).2 = true := by decide +kernel
theorem aw3 : encodeR [97, 32, 98, 37, 50, 103, 34, 195, 169] = [97, 37, 50, 48, 98, 37, 50, 53, 50, 103, 37, 50, 50, 37, 67, 51, 37, 65, 57] := by decide +kernel
theorem aw4 : dotsL (mendR [47, 97, 47, 98, 47, 99, 47, 46, 47, 46, 46, 47, 46, 46, 47, 103]) [] = [47, 97, 47, 103] := by decide +kernel
theorem awake_ok (w : World) : PureC Tryd.prog 16 #[] w (.bool true) := by
  refine enter (l := []) Tryd.func16 rfl Tryd.ntmps16 (by kernel_rfl) rfl ?_
  refine sgo ?_
  refine wlpure (scheme2_ok [32, 74, 97, 86, 97, 9, 115, 99, 114, 105, 112, 116, 58, 120] (by decide) _) fun w1 hf1 => ?_
  rw [aw1, aw2]
  refine sgo ?_
  refine wlcallgp (vals := [str [97, 32, 98, 37, 50, 103, 34, 195, 169]]) (fun _ => encode_ok [97, 32, 98, 37, 50, 103, 34, 195, 169] (by decide) _) fun w2 hf2 => ?_
  rw [aw3]
  have hf2' := hf1.trans hf2
  refine sgo ?_
  refine wlcallgp (vals := [str [47, 97, 47, 98, 47, 99, 47, 46, 47, 46, 46, 47, 46, 46, 47, 103]]) (fun _ => dots_ok [47, 97, 47, 98, 47, 99, 47, 46, 47, 46, 46, 47, 46, 46, 47, 103] (by decide) _) fun w3 hf3 => ?_
  rw [aw4]
  have hf3' := hf2'.trans hf3
  refine sgo ?_
  (first | refine fp1 (.inl rfl) rfl rfl ?_ | refine fp2 (.inl rfl) rfl rfl rfl ?_ | refine fp3 (.inl rfl) rfl rfl rfl rfl ?_ | refine fp0 (.inr rfl) rfl ?_ | refine fp0 (.inl rfl) rfl ?_ | refine fp1 (.inr rfl) rfl rfl ?_); refine ⟨?_, by (first | exact Frm.refl _ | assumption | exact Go.Sv.Sep.frm (by assumption) | (refine Frm.trans ?_ (by assumption); first | exact Frm.refl _ | assumption))⟩; (try simp only [realB, rv_true, Nat.reduceBEq, cond_true, cond_false, entG, real_lif, updGL])
  rfl
end Go.Proofs.YtffaoehhhdcjjaaDoor

/-
  Structs of texts, numbers and bools compared.
-/
set_option linter.unusedSimpArgs false
set_option linter.unusedVariables false
set_option linter.unnecessarySimpa false
namespace Go.Sv
open Go Go.RowKit
def plainB (P : Program) : List Field → Nat → List TypeDesc → Bool
  | [], _, [] => true
  | f :: fs, k, d :: ds => (f.name != "_") && (f.offset == k) && (match P.underlying f.type, d with
    | some .string, .string => true
    | some .bool, .bool => true
    | some (.int a), .int b => kEq a b
    | _, _ => false) && plainB P fs (k + 1) ds
  | _, _, _ => false
/-- a struct whose fields are one cell each: texts, bools, numbers -/
class PlainS (P : Program) (t : TypeId) (ds : outParam (List TypeDesc)) : Prop where
  ok : ∃ fs, P.underlying t = some (.struct fs) ∧ plainB P fs.toList 0 ds = true ∧ P.stoodInHeld t = false ∧ P.eqGuardType P.depth t = false
/-- are two structs the same? -/
def eqL : List TypeDesc → List Value → List Value → Option Bool
  | [], [], [] => some true
  | .string :: ds, .string ⟨⟨a⟩⟩ :: xs, .string ⟨⟨b⟩⟩ :: ys => match eqL ds xs ys with | some r => some (decide (a = b) && r) | none => none
  | .bool :: ds, .bool a :: xs, .bool b :: ys => match eqL ds xs ys with | some r => some (decide (a = b) && r) | none => none
  | .int k :: ds, .int k1 a :: xs, .int k2 b :: ys => match kEq k k1, kEq k k2, eqL ds xs ys with | true, true, some r => some (decide (a = b) && r) | _, _, _ => none
  | _, _, _ => none
section
variable {P : Program} {w : World}
theorem run_part {t : TypeId} {d : TypeDesc} (hu : P.underlying t = some d) (hd : (match d with | .struct _ | .array _ _ => true | _ => false) = false) {cs : Array Value} {off : Nat} {v : Value} (hv : cs[off]? = some v) : (part t cs off).run P w = .ok v w := by
  have hi : (isAgg t).run P w = .ok false w := by
    simp only [isAgg, underlying, Sem.run_bind, run_program, Result.andThen_ok, hu, Sem.run_pure]
    rw [← hd]
    cases d <;> rfl
  simp [part, hi, hv]
theorem str_beq (a b : List UInt8) : ((ByteArray.mk ⟨a⟩).toList == (ByteArray.mk ⟨b⟩).toList) = decide (a = b) := by
  rw [ByteArray.toList_eq, ByteArray.toList_eq]
  exact lbeq a b
theorem eqFields_plain (d : Nat) (X Y : Array Value) : ∀ (fs : List Field) (k : Nat) (ds : List TypeDesc) (xs ys : List Value) (r : Bool), plainB P fs k ds = true → X.toList.drop k = xs → Y.toList.drop k = ys → eqL ds xs ys = some r →
    (Op.eqFields (d + 1) X Y fs).run P w = .ok r w := by
  intro fs
  induction fs with
  | nil =>
    intro k ds xs ys r hp hX hY he
    cases ds with
    | nil =>
      cases xs <;> cases ys <;> simp [eqL] at he
      subst he; rfl
    | cons d ds => simp [plainB] at hp
  | cons f fs ih =>
    intro k ds xs ys r hp hX hY he
    cases ds with
    | nil => simp [plainB] at hp
    | cons d0 ds =>
      simp only [plainB, Bool.and_eq_true] at hp
      obtain ⟨⟨⟨hn, ho⟩, ht⟩, hp⟩ := hp
      have hn' : f.name ≠ "_" := by simpa using hn
      have ho' : f.offset = k := by simpa using ho
      have tailX : ∀ v l, xs = v :: l → X[k]? = some v ∧ X.toList.drop (k + 1) = l := by
        intro v l h
        rw [h] at hX
        have h1 : X.toList[k]? = some v := by
          have := congrArg (·[0]?) hX
          simpa using this
        refine ⟨by simpa using h1, ?_⟩
        have := congrArg (List.drop 1) hX
        simpa [Nat.add_comm] using this
      have tailY : ∀ v l, ys = v :: l → Y[k]? = some v ∧ Y.toList.drop (k + 1) = l := by
        intro v l h
        rw [h] at hY
        have h1 : Y.toList[k]? = some v := by
          have := congrArg (·[0]?) hY
          simpa using this
        refine ⟨by simpa using h1, ?_⟩
        have := congrArg (List.drop 1) hY
        simpa [Nat.add_comm] using this
      simp only [Op.eqFields, if_pos hn', ho']
      unfold eqL at he
      split at he
      · contradiction
      · rename_i ds' a xs' b ys' hq
        injection hq with q1 q2
        subst q1 q2
        obtain ⟨x1, x2⟩ := tailX _ _ rfl
        obtain ⟨y1, y2⟩ := tailY _ _ rfl
        have hu : P.underlying f.type = some .string := by
          revert ht
          cases P.underlying f.type with
          | none => intro h; cases h
          | some u => cases u <;> intro h <;> first | rfl | cases h
        split at he
        · rename_i r' hr'
          obtain rfl := Option.some.inj he
          have := ih (k + 1) _ xs' ys' r' hp x2 y2 hr'
          simp only [Sem.run_bind, run_part hu rfl x1, run_part hu rfl y1, Result.andThen_ok, run_equalIn_string w d f.type _ _ hu, str_beq]
          cases decide (a = b) <;> simp [this]
        · cases he
      · rename_i ds' a xs' b ys' hq
        injection hq with q1 q2
        subst q1 q2
        obtain ⟨x1, x2⟩ := tailX _ _ rfl
        obtain ⟨y1, y2⟩ := tailY _ _ rfl
        have hu : P.underlying f.type = some .bool := by
          revert ht
          cases P.underlying f.type with
          | none => intro h; cases h
          | some u => cases u <;> intro h <;> first | rfl | cases h
        split at he
        · rename_i r' hr'
          obtain rfl := Option.some.inj he
          have := ih (k + 1) _ xs' ys' r' hp x2 y2 hr'
          have hbb : (a == b) = decide (a = b) := by cases a <;> cases b <;> rfl
          simp only [Sem.run_bind, run_part hu rfl x1, run_part hu rfl y1, Result.andThen_ok, run_equalIn_bool' w d f.type _ _ hu, hbb]
          cases decide (a = b) <;> simp [this]
        · cases he
      · rename_i kk ds' k1 a xs' k2 b ys' hq
        injection hq with q1 q2
        subst q1 q2
        obtain ⟨x1, x2⟩ := tailX _ _ rfl
        obtain ⟨y1, y2⟩ := tailY _ _ rfl
        split at he
        · rename_i r' e1 e2 hr'
          obtain rfl := Option.some.inj he
          obtain rfl := kEq_eq e1
          obtain rfl := kEq_eq e2
          have hu : P.underlying f.type = some (.int kk) := by
            revert ht
            cases P.underlying f.type with
            | none => intro h; cases h
            | some u => cases u <;> intro h <;> first | (rw [kEq_eq h]) | cases h
          have := ih (k + 1) _ xs' ys' r' hp x2 y2 hr'
          have hbb : (a == b) = decide (a = b) := by by_cases e : a = b <;> simp [e]
          simp only [Sem.run_bind, run_part hu rfl x1, run_part hu rfl y1, Result.andThen_ok, run_equalIn_int w d f.type _ _ _ _ hu, hbb]
          cases decide (a = b) <;> simp [this]
        · cases he
      · cases he
variable {σ : Env} {d : Option Tmp} {ty t t' : TypeId} {pos : String} {af : Array Edge} {g : Option (Nat × Bool)} {x y : Operand} {ds : List TypeDesc} {xs ys : List Value} {r : Bool}
theorem run_eqS [h : PlainS P t ds] (he : eqL ds xs ys = some r) (k : Nat) : (Op.equalIn (k + 2) t (.agg ⟨xs⟩) (.agg ⟨ys⟩)).run P w = .ok r w := by
  obtain ⟨fs, h1, h2, h3, _⟩ := h.ok
  have hf : P.fieldsOf t = fs := by simp [Program.fieldsOf, h1]
  rw [run_equalIn_struct w (k + 1) t _ _ (by rw [hf]; exact h1) h3, hf]
  exact eqFields_plain k ⟨xs⟩ ⟨ys⟩ fs.toList 0 ds xs ys r h2 rfl rfl he
theorem y_aneq [h : PlainS P t ds] (hx : evl σ x = .agg ⟨xs⟩) (hy : evl σ y = .agg ⟨ys⟩) (he : eqL ds xs ys = some r) : Y P σ ⟨d, .binOp .neq t x y t', ty, pos, af, g⟩ w (.bool (!r)) w := by
  obtain ⟨fs, h1, h2, h3, h4⟩ := h.ok
  refine Y.val ?_
  simp only [execOp, hx, hy, Sem.run_bind, run_eqGuard_agg w .neq t x y _ _ h4, Result.andThen_ok, run_neq_struct]
  rw [show (10000 : Nat) = 9998 + 2 from rfl, run_eqS he]
  rfl
end
end Go.Sv

/- This seat's plain structs as instances (made by a program of ours). -/
namespace Go.Proofs.YtffaoehhhdcjjaaDoor
open Go Go.Sv
instance : PlainS Tryd.prog 42 [.string, .string] := ⟨_, Tryd.underlying42, by kernel_rfl, by kernel_rfl, by kernel_rfl⟩
instance : PlainS Tryd.prog 43 [.string, .string] := ⟨_, Tryd.underlying43, by kernel_rfl, by kernel_rfl, by kernel_rfl⟩
instance : PlainS Tryd.prog 53 [.string, .string] := ⟨_, Tryd.underlying53, by kernel_rfl, by kernel_rfl, by kernel_rfl⟩
instance : PlainS Tryd.prog 54 [.string, .string] := ⟨_, Tryd.underlying54, by kernel_rfl, by kernel_rfl, by kernel_rfl⟩
instance : PlainS Tryd.prog 92 [.int .i32, .int .i64, .int .i64, .bool] := ⟨_, Tryd.underlying92, by kernel_rfl, by kernel_rfl, by kernel_rfl⟩
instance : PlainS Tryd.prog 93 [.int .i32, .int .i64, .int .i64, .bool] := ⟨_, Tryd.underlying93, by kernel_rfl, by kernel_rfl, by kernel_rfl⟩
end Go.Proofs.YtffaoehhhdcjjaaDoor

/-
  The law LinkSets: candidates compared, Set.
-/
set_option linter.unusedSimpArgs false
set_option linter.unusedVariables false
set_option linter.unnecessarySimpa false
namespace Go.Proofs.YtffaoehhhdcjjaaDoor
open Go Go.Sv Go.RowKit

theorem att_atS {es : List At} {i : Nat} {x : At} (h : es[i]? = some x) : ((es.flatMap At.cells).drop (i * 2)).take 2 = x.cells := fm_seg At.len es h
set_option maxHeartbeats 2000000 in
theorem cands12_ok (es fs : List At) (p q : Option Addr) (c cc : Nat) (h1 : es.length ≤ 1073741824) (h2 : fs.length ≤ 1073741824) (w : World) (hi : Im [] w p (es.flatMap At.cells)) (hj : Im [] w q (fs.flatMap At.cells)) :
    PureC Tryd.prog 28 #[.slice p es.length c, .slice q fs.length cc] w (.bool (decide (es = fs))) := by
  have hl1 := fm_len At.len es
  have hl2 := fm_len At.len fs
  refine enter (l := [.slice p es.length c, .slice q fs.length cc]) Tryd.func28 rfl Tryd.ntmps28 (by kernel_rfl) rfl ?_
  refine sgo ?_
  (show WC _ _ _ _ _ _ _; first | refine WC_dec rfl (fun hc => ?_) (fun hc => ?_) | refine WC_cond rfl (fun hc => ?_) (fun hc => ?_))
  · have hne : es ≠ fs := by
      intro h
      subst h
      exact hc rfl
    refine sgo ?_
    (first | refine fp1 (.inl rfl) rfl rfl ?_ | refine fp2 (.inl rfl) rfl rfl rfl ?_ | refine fp3 (.inl rfl) rfl rfl rfl rfl ?_ | refine fp0 (.inr rfl) rfl ?_ | refine fp0 (.inl rfl) rfl ?_ | refine fp1 (.inr rfl) rfl rfl ?_); refine ⟨?_, by (first | exact Frm.refl _ | assumption | exact Go.Sv.Sep.frm (by assumption) | (refine Frm.trans ?_ (by assumption); first | exact Frm.refl _ | assumption))⟩; (try simp only [realB, rv_true, Nat.reduceBEq, cond_true, cond_false, entG, real_lif, updGL])
    rw [decide_eq_false hne]
  have hle : es.length = fs.length := by
    have : ¬ ((es.length : Int) ≠ fs.length) := hc
    omega
  clear hc
  refine sgo ?_
  refine wcloop (X := Nat) (fun i => [(0, .slice p es.length c), (1, .slice q fs.length cc), (12, int es.length), (13, int i)])
    (fun i wr => i ≤ es.length ∧ es.take i = fs.take i ∧ Frm w wr) (fun i => es.length - i) 0 ⟨rfl, rfl, rfl, rfl, trivial⟩ ⟨Nat.zero_le _, rfl, Frm.refl _⟩ ?_
  rintro i wr ρ ⟨hil, hpre, hf⟩
  have hir := hi.frm hf
  have hjr := hj.frm hf
  refine sgo ?_
  (show WC _ _ _ _ _ _ _; first | refine WC_dec rfl (fun hc => ?_) (fun hc => ?_) | refine WC_cond rfl (fun hc => ?_) (fun hc => ?_))
  · have hlt : i < es.length := by omega
    have hx : es[i]? = some es[i] := List.getElem?_eq_getElem hlt
    have hy : fs[i]? = some fs[i] := List.getElem?_eq_getElem (by omega)
    have hsx := att_atS hx
    have hsy := att_atS hy
    have hpa : ∃ a, p = some a := hi.some (by omega)
    have hpb : ∃ a, q = some a := hj.some (by omega)
    have htx : es.take (i + 1) = es.take i ++ [es[i]] := by rw [List.take_add_one, hx]; rfl
    have hty : fs.take (i + 1) = fs.take i ++ [fs[i]] := by rw [List.take_add_one, hy]; rfl
    generalize es[i] = x at *
    generalize fs[i] = y at *
    clear hc
    refine sgo ?_
    refine wcdraw ?_
    refine qgo ?_
    rw [hsx, hsy]
    refine ql (v := .bool (!(decide (x.n = y.n) && (decide (x.v = y.v) && true)))) ?_ (YQ.ofY fun w _ => y_aneq rfl rfl rfl)
    refine QL_nil ?_
    intro w3 hf3
    replace hf := hf.trans hf3
    obtain ⟨xn, xv⟩ := x
    obtain ⟨yn, yv⟩ := y
    refine sgo ?_
    (show WC _ _ _ _ _ _ _; first | refine WC_dec rfl (fun hc => ?_) (fun hc => ?_) | refine WC_cond rfl (fun hc => ?_) (fun hc => ?_))
    · have hne : es ≠ fs := by
        intro h
        subst h
        rw [hx] at hy
        injection hy with hy
        injection hy with e1 e2
        subst e1 e2
        simp at hc
      refine sgo ?_
      (first | refine fp1 (.inl rfl) rfl rfl ?_ | refine fp2 (.inl rfl) rfl rfl rfl ?_ | refine fp3 (.inl rfl) rfl rfl rfl rfl ?_ | refine fp0 (.inr rfl) rfl ?_ | refine fp0 (.inl rfl) rfl ?_ | refine fp1 (.inr rfl) rfl rfl ?_); refine ⟨?_, by (first | exact Frm.refl _ | assumption | exact Go.Sv.Sep.frm (by assumption) | (refine Frm.trans ?_ (by assumption); first | exact Frm.refl _ | assumption))⟩; (try simp only [realB, rv_true, Nat.reduceBEq, cond_true, cond_false, entG, real_lif, updGL])
      rw [decide_eq_false hne]
    · refine sgo ?_
      refine ⟨i + 1, ⟨rfl, rfl, rfl, rfl, trivial⟩, ⟨hlt, ?_, hf⟩, (by (try dsimp only); omega)⟩
      rw [htx, hty, hpre]
      simp at hc
      rw [hc.1, hc.2]
  · obtain rfl : i = es.length := by omega
    rw [List.take_length, hle, List.take_length] at hpre
    refine sgo ?_
    (first | refine fp1 (.inl rfl) rfl rfl ?_ | refine fp2 (.inl rfl) rfl rfl rfl ?_ | refine fp3 (.inl rfl) rfl rfl rfl rfl ?_ | refine fp0 (.inr rfl) rfl ?_ | refine fp0 (.inl rfl) rfl ?_ | refine fp1 (.inr rfl) rfl rfl ?_); refine ⟨?_, by (first | exact Frm.refl _ | assumption | exact Go.Sv.Sep.frm (by assumption) | (refine Frm.trans ?_ (by assumption); first | exact Frm.refl _ | assumption))⟩; (try simp only [realB, rv_true, Nat.reduceBEq, cond_true, cond_false, entG, real_lif, updGL])
    rw [hpre, decide_eq_true rfl]
def setW (a : At) : List UInt8 := mendR a.n ++ (if a.v = [] then [] else [32] ++ mendR a.v)
theorem setW_len (a : At) : (setW a).length ≤ 4 * (a.n.length + a.v.length) + 1 := by
  have h1 := mendR_len a.n
  have h2 := mendR_len a.v
  unfold setW
  rw [List.length_append]
  split
  · simp; omega
  · simp only [List.length_append, List.length_cons, List.length_nil]; omega
def atwS (l : List At) : Nat := (l.map At.wt).sum
theorem tlen_sets : ∀ l : List At, tlen (l.map setW) ≤ 4 * atwS l
  | [] => by simp [tlen, atwS]
  | a :: l => by
    have ih := tlen_sets l
    have h1 := setW_len a
    have h2 : At.wt a = a.n.length + a.v.length + 3 := rfl
    have e1 : tlen ((a :: l).map setW) = (setW a).length + tlen (l.map setW) := by simp [tlen]
    have e2 : atwS (a :: l) = At.wt a + atwS l := by simp [atwS]
    omega
theorem join_sets (l : List At) : (joinR [44, 32] (l.map setW)).length ≤ 6 * atwS l := by
  have h1 := tlen_sets l
  have h2 : l.length ≤ atwS l := sum_len At.wt l (by intro x _; unfold At.wt; omega)
  cases l with
  | nil => simp [joinR]
  | cons a l =>
    rw [List.map_cons, join_len]
    rw [List.map_cons] at h1
    simp only [List.length_map, List.length_cons, List.length_nil] at h2 ⊢
    omega
theorem join_takeS {sep : List UInt8} {l : List (List UInt8)} {i : Nat} {x : List UInt8} (h : l[i]? = some x) : joinR sep (l.take (i + 1)) = joinR sep (l.take i) ++ (if i = 0 then [] else sep) ++ x := by
  cases l with
  | nil => cases h
  | cons y r =>
    cases i with
    | zero =>
      have : y = x := by simpa using h
      subst this
      simp [joinR]
    | succ i =>
      rw [if_neg (by omega), List.take_succ_cons, List.take_succ_cons]
      exact join_snoc (by simpa using h)
set_option maxHeartbeats 4000000 in
theorem set_ok (l : List At) (p : Option Addr) (c : Nat) (hw : atwS l ≤ 1048576) (w : World) (hi : Im [] w p (l.flatMap At.cells)) :
    PureC Tryd.prog 29 #[.slice p l.length c] w (str (joinR [44, 32] (l.map setW))) := by
  have hs : ∀ a ∈ l, a.small := fun a ha => by
    have h1 := sum_mem At.wt l ha
    have h2 : At.wt a = a.n.length + a.v.length + 3 := rfl
    unfold atwS at hw
    exact ⟨by omega, by omega⟩
  have hn : l.length ≤ 1048576 := by
    have := sum_len At.wt l (by intro x _; unfold At.wt; omega)
    unfold atwS at hw; omega
  have hj := join_sets l
  have hS := Sep.start w
  refine enter (l := [.slice p l.length c]) Tryd.func29 rfl Tryd.ntmps29 (by kernel_rfl) rfl ?_
  refine sgo ?_
  replace hS : Sep w w [pRow 1 none 0 0 []] := hS.nilRow 1
  refine wcloop (X := Nat × Option Addr × Nat) (fun x => [(3, .slice x.2.1 x.1 x.2.2), (7, .slice p l.length c), (8, int l.length), (9, int x.1)])
    (fun x wr => x.1 ≤ l.length ∧ Sep w wr [pRow 1 x.2.1 x.1 x.2.2 (strs ((l.take x.1).map setW))]) (fun x => l.length - x.1) (0, none, 0) ⟨rfl, rfl, rfl, rfl, trivial⟩ ⟨Nat.zero_le _, hS⟩ ?_
  clear hS
  rintro ⟨i, q, cc⟩ wr ρ ⟨hil, hS⟩
  dsimp only at hil hS ⊢
  refine sgo ?_
  (show WC _ _ _ _ _ _ _; first | refine WC_dec rfl (fun hc => ?_) (fun hc => ?_) | refine WC_cond rfl (fun hc => ?_) (fun hc => ?_))
  · have hlt : i < l.length := by omega
    clear hc
    have hSg := (hi.frm hS.frm).sg
    have hx : l[i]? = some l[i] := List.getElem?_eq_getElem hlt
    have hseg := fm_seg At.len l hx
    have hfl := fm_len At.len l
    have hps : ∃ q, p = some q := hSg.some (by omega)
    have hsm := hs l[i] (List.getElem_mem hlt)
    have hsw := setW_len l[i]
    have htk : (l.take (i + 1)).map setW = (l.take i).map setW ++ [setW l[i]] := by rw [List.take_add_one, hx, List.map_append]; rfl
    generalize l[i] = x at *
    obtain ⟨n, v⟩ := x
    have hz1 := hsm.1
    have hz2 := hsm.2
    dsimp only at hz1 hz2 hsw
    refine sgo ?_
    rw [hseg]
    refine salloc hS fun b5 w6 hS => ?_
    refine sgo ?_
    refine ssta (vs := [str n, str v]) hS 0 fun w7 hS => ?_
    replace hS : Sep w w7 [pOwn b5 [str n, str v], pRow 1 q i cc (strs ((l.take i).map setW))] := hS
    clear hseg hSg
    have hm1 := mendR_len n
    have hm2 := mendR_len v
    refine sgo ?_
    refine wlpure (mend_ok n (by omega) _) fun w8 hf8 => ?_
    replace hS := hS.grow hf8
    refine sgo ?_
    refine wcutt (X := Unit) (fun _ => [(3, .slice q i cc), (6, str (setW ⟨n, v⟩)), (7, .slice p l.length c), (8, int l.length), (9, int i)]) (fun _ w' => Sep w w' [pOwn b5 [str n, str v], pRow 1 q i cc (strs ((l.take i).map setW))]) ?_ ?_
    · by_cases h0 : v = []
      · refine wcno ?_ (ht := by simp [h0])
        refine sgo ?_
        exact ⟨(), ⟨rfl, (show str _ = str _ from by unfold setW; rw [if_pos h0, List.append_nil]), rfl, rfl, rfl, trivial⟩, hS⟩
      · refine wcyes ?_ (ht := by simp [h0])
        refine sgo ?_
        refine wlpure (mend_ok v (by omega) _) fun w9 hf9 => ?_
        replace hS := hS.grow hf9
        refine sgo ?_
        exact ⟨(), ⟨rfl, (show str _ = str _ from by unfold setW; rw [if_neg h0]), rfl, rfl, rfl, trivial⟩, hS⟩
    clear hS
    rintro _ w10 ρ2 hS
    refine sgo ?_
    refine sb1s hS fun b9 w12 hS => ?_
    refine sgo ?_
    refine sapp hS 2 (hS.own 0 rfl).sg fun q' c' w13 hS => ?_
    replace hS : Sep w w13 [pRow 1 q' (i + 1) c' (strs ((l.take i).map setW) ++ [str (setW ⟨n, v⟩)])] := (hS.drop 1 rfl).drop 0 rfl
    have e : strs ((l.take i).map setW) ++ [str (setW ⟨n, v⟩)] = strs ((l.take (i + 1)).map setW) := by rw [htk, strs_snoc]
    rw [e] at hS
    refine sgo ?_
    exact ⟨(i + 1, q', c'), ⟨rfl, rfl, rfl, rfl, trivial⟩, ⟨hlt, hS⟩, (by (try dsimp only); omega)⟩
  · obtain rfl : i = l.length := by omega
    rw [List.take_length] at hS
    have hle := (hS.row 0 rfl).le_cap
    have hlm : (l.map setW).length = l.length := by simp
    have hjo := fun w h => join_ok (l.map setW) [44, 32] q cc (by rw [hlm]; exact hle.1) (by rw [hlm]; omega) (by decide) (by omega) w h
    rw [hlm] at hjo
    refine sgo ?_
    refine wlpure (hjo _ (hS.im 0 rfl)) fun w5 hf5 => ?_
    replace hS := hS.grow hf5
    refine sgo ?_
    (first | refine fp1 (.inl rfl) rfl rfl ?_ | refine fp2 (.inl rfl) rfl rfl rfl ?_ | refine fp3 (.inl rfl) rfl rfl rfl rfl ?_ | refine fp0 (.inr rfl) rfl ?_ | refine fp0 (.inl rfl) rfl ?_ | refine fp1 (.inr rfl) rfl rfl ?_); refine ⟨?_, by (first | exact Frm.refl _ | assumption | exact Go.Sv.Sep.frm (by assumption) | (refine Frm.trans ?_ (by assumption); first | exact Frm.refl _ | assumption))⟩; (try simp only [realB, rv_true, Nat.reduceBEq, cond_true, cond_false, entG, real_lif, updGL])
set_option maxHeartbeats 4000000 in
theorem refSet_ok (l : List At) (p : Option Addr) (c : Nat) (hw : atwS l ≤ 1048576) (w : World) (hi : Im [] w p (l.flatMap At.cells)) :
    PureC Tryd.prog 30 #[.slice p l.length c] w (str (joinR [44, 32] (l.map setW))) := by
  have hs : ∀ a ∈ l, a.small := fun a ha => by
    have h1 := sum_mem At.wt l ha
    have h2 : At.wt a = a.n.length + a.v.length + 3 := rfl
    unfold atwS at hw
    exact ⟨by omega, by omega⟩
  have hn : l.length ≤ 1048576 := by
    have := sum_len At.wt l (by intro x _; unfold At.wt; omega)
    unfold atwS at hw; omega
  have hjt : ∀ i, (joinR [44, 32] ((l.take i).map setW)).length ≤ 6291456 := fun i => by
    have h1 := join_sets (l.take i)
    have h2 : atwS (l.take i) ≤ atwS l := sum_take At.wt l i
    omega
  have hS := Sep.start w
  refine enter (l := [.slice p l.length c]) Tryd.func30 rfl Tryd.ntmps30 (by kernel_rfl) rfl ?_
  refine sgo ?_
  refine wcloop (X := Nat) (fun i => [(3, str (joinR [44, 32] ((l.take i).map setW))), (6, .slice p l.length c), (7, int l.length), (8, int i)])
    (fun i wr => i ≤ l.length ∧ Frm w wr) (fun i => l.length - i) 0 ⟨rfl, rfl, rfl, rfl, trivial⟩ ⟨Nat.zero_le _, hS.frm⟩ ?_
  clear hS
  rintro i wr ρ ⟨hil, hfr⟩
  have hS := (Sep.start w).grow hfr
  have hjl := hjt i
  refine sgo ?_
  (show WC _ _ _ _ _ _ _; first | refine WC_dec rfl (fun hc => ?_) (fun hc => ?_) | refine WC_cond rfl (fun hc => ?_) (fun hc => ?_))
  · have hlt : i < l.length := by omega
    clear hc
    have hSg := (hi.frm hS.frm).sg
    have hx : l[i]? = some l[i] := List.getElem?_eq_getElem hlt
    have hseg := fm_seg At.len l hx
    have hfl := fm_len At.len l
    have hps : ∃ q, p = some q := hSg.some (by omega)
    have hsm := hs l[i] (List.getElem_mem hlt)
    have hjs : joinR [44, 32] ((l.take (i + 1)).map setW) = joinR [44, 32] ((l.take i).map setW) ++ (if i = 0 then [] else [44, 32]) ++ setW l[i] := by
      rw [List.map_take, List.map_take]
      exact join_takeS (by rw [List.getElem?_map, hx]; rfl)
    generalize l[i] = x at *
    obtain ⟨n, v⟩ := x
    have hz1 := hsm.1
    have hz2 := hsm.2
    dsimp only at hz1 hz2
    have hm1 := mendR_len n
    have hm2 := mendR_len v
    generalize joinR [44, 32] ((l.take i).map setW) = s at *
    refine sgo ?_
    rw [hseg]
    refine salloc hS fun b5 w6 hS => ?_
    refine sgo ?_
    refine ssta (vs := [str n, str v]) hS 0 fun w7 hS => ?_
    replace hS : Sep w w7 [pOwn b5 [str n, str v]] := hS
    clear hseg hSg
    refine sgo ?_
    refine wcutt (X := Unit) (fun _ => [(3, str (s ++ if i = 0 then [] else [44, 32])), (5, ptrAt (pb b5) 0), (6, .slice p l.length c), (7, int l.length), (8, int i)]) (fun _ w' => Sep w w' [pOwn b5 [str n, str v]]) ?_ ?_
    · by_cases h0 : i = 0
      · rw [if_pos h0]
        refine wcno ?_ (ht := by simp [h0])
        refine sgo ?_
        exact ⟨(), ⟨(show str _ = str _ from by simp), rfl, rfl, rfl, rfl, trivial⟩, hS⟩
      · rw [if_neg h0]
        refine wcyes ?_ (ht := by simp; omega)
        refine sgo ?_
        exact ⟨(), ⟨rfl, rfl, rfl, rfl, rfl, trivial⟩, hS⟩
    clear hS
    rintro _ w8 ρ2 hS
    have hsl : (s ++ if i = 0 then [] else [44, 32]).length ≤ 6291458 := by
      rw [List.length_append]
      split
      · simp; omega
      · simp; omega
    generalize (s ++ if i = 0 then [] else [44, 32]) = s2 at *
    refine sgo ?_
    refine wlpure (refMend_ok n (by omega) _) fun w9 hf9 => ?_
    replace hS := hS.grow hf9
    refine sgo ?_
    by_cases h0 : v = []
    · refine wcno ?_ (ht := by simp [h0])
      refine sgo ?_
      refine ⟨i + 1, ⟨?_, rfl, rfl, rfl, trivial⟩, ⟨hlt, hS.frm⟩, by omega⟩
      show str _ = str _
      refine congrArg (fun l => str l) ?_
      rw [hjs]
      unfold setW
      rw [if_pos h0, List.append_nil]
    · refine wcyes ?_ (ht := by simp [h0])
      refine sgo ?_
      refine wlpure (refMend_ok v (by omega) _) fun w10 hf10 => ?_
      replace hS := hS.grow hf10
      refine sgo ?_
      refine ⟨i + 1, ⟨?_, rfl, rfl, rfl, trivial⟩, ⟨hlt, hS.frm⟩, by omega⟩
      show str _ = str _
      refine congrArg (fun l => str l) ?_
      rw [hjs]
      unfold setW
      rw [if_neg h0, List.append_assoc]
  · obtain rfl : i = l.length := by omega
    rw [List.take_length]
    refine sgo ?_
    (first | refine fp1 (.inl rfl) rfl rfl ?_ | refine fp2 (.inl rfl) rfl rfl rfl ?_ | refine fp3 (.inl rfl) rfl rfl rfl rfl ?_ | refine fp0 (.inr rfl) rfl ?_ | refine fp0 (.inl rfl) rfl ?_ | refine fp1 (.inr rfl) rfl rfl ?_); refine ⟨?_, by (first | exact Frm.refl _ | assumption | exact Go.Sv.Sep.frm (by assumption) | (refine Frm.trans ?_ (by assumption); first | exact Frm.refl _ | assumption))⟩; (try simp only [realB, rv_true, Nat.reduceBEq, cond_true, cond_false, entG, real_lif, updGL])
end Go.Proofs.YtffaoehhhdcjjaaDoor

/-
  The law LinkSets.
-/
set_option linter.unusedSimpArgs false
set_option linter.unusedVariables false
set_option linter.unnecessarySimpa false
namespace Go.Proofs.YtffaoehhhdcjjaaDoor
open Go Go.Sv Go.RowKit

theorem setsF_len : ∀ (f : Nat) (l : List UInt8), (setsF f l).length ≤ f
  | 0, _ => Nat.le_refl _
  | f + 1, l => by
    have := setsF_len f (candT (skipR l))
    unfold setsF
    split
    · simp
    · simp; omega
set_option maxHeartbeats 4000000 in
theorem linkSets_ok (q : List UInt8) (l : List At) (p : Option Addr) (c : Nat) (hq : q.length ≤ 1048576) (hw : (l.map At.wt).sum ≤ 1048576) (w : World) (hi : Im [] w p (l.flatMap At.cells)) :
    CallsR Tryd.prog 6 #[str q, .slice p l.length c] w fun v w' => v = .bool true ∧ Frm w w' := by
  have hS := Sep.start w
  have hb : (setsR (mendR q)).length ≤ 4194304 := by
    have h1 := setsF_len (mendR q).length (mendR q)
    have h2 := mendR_len q
    unfold setsR; omega
  refine enter (l := [str q, .slice p l.length c]) Tryd.func6 rfl Tryd.ntmps6 (by kernel_rfl) rfl ?_
  refine sgo ?_
  refine wlcall (srcset_ok q (by omega) _) ?_
  rintro _ w1 ⟨p1, c1, rfl, hS1⟩
  replace hS := hS.seq hS1
  clear hS1
  replace hS : Sep w w1 [pRow 2 p1 (setsR (mendR q)).length c1 ((setsR (mendR q)).flatMap At.cells)] := hS
  refine sgo ?_
  refine wlcall (srcset_ok q (by omega) _) ?_
  rintro _ w2 ⟨p2, c2, rfl, hS2⟩
  replace hS := hS.seq hS2
  clear hS2
  replace hS : Sep w w2 [pRow 2 p2 (setsR (mendR q)).length c2 ((setsR (mendR q)).flatMap At.cells), pRow 2 p1 (setsR (mendR q)).length c1 ((setsR (mendR q)).flatMap At.cells)] := hS
  refine sgo ?_
  refine wlcall (refSrcset_ok q (by omega) _) ?_
  rintro _ w3 ⟨p3, c3, rfl, hS3⟩
  replace hS := hS.seq hS3
  clear hS3
  replace hS : Sep w w3 [pRow 2 p3 (setsR (mendR q)).length c3 ((setsR (mendR q)).flatMap At.cells), pRow 2 p2 (setsR (mendR q)).length c2 ((setsR (mendR q)).flatMap At.cells), pRow 2 p1 (setsR (mendR q)).length c1 ((setsR (mendR q)).flatMap At.cells)] := hS
  generalize setsR (mendR q) = es at *
  generalize (!es.any fun a => !goodL a.v) = ok at *
  have hfl := fm_len At.len es
  refine sgo ?_
  refine wlcallgp (vals := [.slice p1 es.length c1, .slice p3 es.length c3]) (fun _ => cands12_ok es es p1 p3 c1 c3 (by omega) (by omega) _ (hS.im 2 rfl) (hS.im 0 rfl)) fun w4 hf4 => ?_
  replace hS := hS.grow hf4
  rw [decide_eq_true rfl]
  refine sgo ?_
  refine wcno ?_ (ht := by simp)
  refine sgo ?_
  refine wcloop (X := Nat × List Value) (fun x => [(1, .slice p l.length c), (5, .slice p1 es.length c1), (7, .slice p2 es.length c2), (9, .slice p3 es.length c3), (37, int es.length), (38, int x.1)])
    (fun x wr => x.1 ≤ es.length ∧ Sep w wr [pRow 2 p3 es.length c3 (es.flatMap At.cells), pRow 2 p2 es.length c2 (es.flatMap At.cells), pRow 2 p1 es.length c1 x.2]) (fun x => es.length - x.1) (0, es.flatMap At.cells) ⟨rfl, rfl, rfl, rfl, rfl, rfl, trivial⟩ ⟨Nat.zero_le _, hS⟩ ?_
  clear hS
  rintro ⟨i, ys⟩ wr ρ ⟨hil, hS⟩
  dsimp only at hil hS ⊢
  refine sgo ?_
  (show WC _ _ _ _ _ _ _; first | refine WC_dec rfl (fun hc => ?_) (fun hc => ?_) | refine WC_cond rfl (fun hc => ?_) (fun hc => ?_))
  · have hlt : i < es.length := by omega
    clear hc
    have hyl : ys.length = es.length * 2 := Row.len (hS.row 2 rfl)
    have hps : ∃ a, p1 = some a := (hS.row 2 rfl).sg.some (by omega)
    refine sgo ?_
    refine wlbuild ?_
    refine sgo ?_
    refine srst (v := .agg ⟨[str [115, 112, 111, 105, 108, 116], str []]⟩) (j := i * 2) hS 2 (fun w5 hS => ?_) (hk := by omega)
    refine sgo ?_
    exact ⟨(i + 1, ys.take (i * 2) ++ [str [115, 112, 111, 105, 108, 116], str []] ++ ys.drop (i * 2 + 2)), ⟨rfl, rfl, rfl, rfl, rfl, rfl, trivial⟩, ⟨hlt, hS⟩, by dsimp only; omega⟩
  · clear hc
    replace hS := hS.drop 2 rfl
    replace hS : Sep w wr [pRow 2 p3 es.length c3 (es.flatMap At.cells), pRow 2 p2 es.length c2 (es.flatMap At.cells)] := hS
    refine sgo ?_
    refine wlpure (cands12_ok es es p2 p3 c2 c3 (by omega) (by omega) _ (hS.im 1 rfl) (hS.im 0 rfl)) fun w8 hf8 => ?_
    replace hS := hS.grow hf8
    rw [decide_eq_true rfl]
    refine sgo ?_
    refine wlcallgp (vals := [.slice p l.length c]) (fun _ => set_ok l p c hw _ (hi.frm hS.frm)) fun w9 hf9 => ?_
    replace hS := hS.grow hf9
    refine sgo ?_
    refine wlcallgp (vals := [.slice p l.length c]) (fun _ => refSet_ok l p c hw _ (hi.frm hS.frm)) fun w10 hf10 => ?_
    replace hS := hS.grow hf10
    refine sgo ?_
    refine wlcallgp (vals := []) (fun _ => awake_ok _) (fun w11 hf11 => ?_) (ha := fun _ => rfl)
    replace hS := hS.grow hf11
    refine sgo ?_
    (first | refine fp1 (.inl rfl) rfl rfl ?_ | refine fp2 (.inl rfl) rfl rfl rfl ?_ | refine fp3 (.inl rfl) rfl rfl rfl rfl ?_ | refine fp0 (.inr rfl) rfl ?_ | refine fp0 (.inl rfl) rfl ?_ | refine fp1 (.inr rfl) rfl rfl ?_)
    refine ⟨?_, hS.frm⟩
    simp
    rfl
end Go.Proofs.YtffaoehhhdcjjaaDoor

/-
  From a frame to what a row asks behind the call: nothing that was there has turned (new blocks may be frozen).
-/
set_option linter.unusedSimpArgs false
set_option linter.unusedVariables false
set_option linter.unnecessarySimpa false
namespace Go.ChangeShapes
section
variable {H : Type} {enc : TypeId × Value → H} {P : Program}
theorem post_frm {f : Func} {s : ChangeSpec} {apart fresh handsOn again : Bool} {W W' : World} {args : Array Value} {v : Value} {ds gs : List (DataW H)} {before pa pv : List MemPlace}
    (hW : DataW.Whole enc P f.params.toList s.vars apart W args.toList ds gs before)
    (hres : ∀ (b : Nat) (sp : Nat → Bool) (hd : Bool), DataW.TrodAll enc P W' b sp hd f.resultTypes.toList (v.resultList f.resultTypes.size) (s.fn H (ds ++ gs)).results [])
    (hargs : ∀ sp : Nat → Bool, (∀ p ∈ before, sp p.block = true) → DataW.TrodAll enc P W' 0 sp true f.params.toList args.toList (s.fn H (ds ++ gs)).args pa)
    (hvars : ∀ sp : Nat → Bool, (∀ p ∈ before, sp p.block = true) → DataW.TrodVars enc P W' sp s.vars (s.fn H (ds ++ gs)).vars pv)
    (hps : before = pa ++ pv) (hk : Sv.Frm W W')
    (hok : ∀ (j : Nat) (t : TypeId) (r : Value), f.resultTypes[j]? = some t → (v.resultList f.resultTypes.size)[j]? = some r → Value.okWide P W' .any 0 t r) :
    s.post enc P f apart fresh handsOn again W args v W' := by
  have hold : ∀ p ∈ before, (fun b => decide (b < W.heap.size)) p.block = true := fun p hp => by simpa using hW.lt p hp
  refine ⟨ds, gs, before, [], pa, pv, hW, hres _ _ _, hargs _ hold, hvars _ hold, World.keptBut_mono (fun p hp => ⟨hp, ?_⟩) (RowKit.Below.frame hk (· ∈ before)), fun _ => ?_⟩
  · rw [hps, List.mem_append] at hp
    exact Or.inr hp
  · have hlt := hW.lt
    obtain ⟨_, _, _, _, _, hz, hn⟩ := hW
    refine ⟨hok, _, _, ([] ++ pa) ++ pv, ⟨[] ++ pa, pv, trodAll_append (hargs _ (fun _ _ => rfl)) (hres _ _ _), hvars _ (fun _ _ => rfl), rfl, ?_, ?_⟩, ?_⟩
    · intro b off hp
      have hp' : (.cell b off : MemPlace) ∈ before := by rw [hps]; simpa using hp
      rw [RowKit.Below.frozen hk (hlt _ hp')]
      exact hz b off hp'
    · intro ha
      have := hn ha
      rw [hps] at this
      simpa using this
    · intro p hp _
      rw [hps]
      simpa using hp
end
end Go.ChangeShapes

/-
  From a reading of the arguments to what lies in memory; and back: a law leaves the arguments as they were.
-/
set_option linter.unusedSimpArgs false
set_option linter.unusedVariables false
set_option linter.unnecessarySimpa false
namespace Go.Sv
open Go Go.RowKit Go.ChangeShapes Go.WideShapes
theorem cell_lt {w : World} {a : Addr} {v : Value} (h : w.cell? a = some v) : a.block < w.heap.size := by
  rcases Nat.lt_or_ge a.block w.heap.size with h1 | h1
  · exact h1
  · have : w.heap[a.block]? = none := Array.getElem?_eq_none h1
    simp [World.cell?, this] at h
theorem seg_app {w : World} {a : Addr} {l l' : List Value} (h : seg w a l) (h' : seg w (a.add l.length) l') : seg w a (l ++ l') := by
  intro i hi
  rcases Nat.lt_or_ge i l.length with h1 | h1
  · rw [h i h1, List.getElem?_append_left h1]
  · have := h' (i - l.length) (by simp at hi; omega)
    rw [add_add, show l.length + (i - l.length) = i by omega] at this
    rw [this, List.getElem?_append_right h1]
theorem seg_range {w : World} {a : Addr} {k : Nat} (f : Nat → List Value) : ∀ n : Nat, (∀ i, i < n → (f i).length = k ∧ seg w (a.add (i * k)) (f i)) → seg w a ((List.range n).flatMap f) ∧ ((List.range n).flatMap f).length = n * k
  | 0, _ => ⟨fun i hi => by simp at hi, by simp⟩
  | n + 1, h => by
    obtain ⟨h1, h2⟩ := seg_range f n fun i hi => h i (by omega)
    obtain ⟨h3, h4⟩ := h n (by omega)
    rw [List.range_succ, List.flatMap_append]
    simp only [List.flatMap_cons, List.flatMap_nil, List.append_nil]
    refine ⟨seg_app h1 (by rw [h2]; exact h4), ?_⟩
    rw [List.length_append, h2, h3, Nat.succ_mul]
/-- a law's ending: it answered true, and left all as it was -/
theorem trodAll_frm {H : Type} {enc : TypeId × Value → H} {P : Program} (hl : laidOutB P = true) {W W' : World} (hf : Sv.Frm W W') {sp : Nat → Bool} : ∀ {ts : List TypeId} {vs : List Value} {ds : List (DataW H)} {ps : List MemPlace},
    (∀ t ∈ ts, P.readableRec t = true ∧ t < P.types.size) → DataW.TrodAll enc P W 0 (fun _ => true) true ts vs ds ps → (∀ p ∈ ps, p.block < W.heap.size) → (∀ p ∈ ps, sp p.block = true) → DataW.TrodAll enc P W' 0 sp true ts vs ds ps
  | [], [], [], _, _, h, _, _ => h
  | t :: ts, v :: vs, d :: ds, _, ht, ⟨p, q, h1, h2, e⟩, hlt, hs => by
    subst e
    refine ⟨p, q, ?_, ?_, rfl⟩
    · obtain ⟨hr, hrow⟩ := ht t List.mem_cons_self
      exact WideElems.Trod_stays hl hr hrow h1 (fun x hx => RowKit.Below.same hf (hlt x (List.mem_append_left _ hx))) fun x hx => hs x (List.mem_append_left _ hx)
    · exact trodAll_frm hl hf (fun t ht' => ht t (List.mem_cons_of_mem _ ht')) h2 (fun x hx => hlt x (List.mem_append_right _ hx)) fun x hx => hs x (List.mem_append_right _ hx)
theorem law_ends {H : Type} {enc : TypeId × Value → H} {P : Program} {f : Func} {s : ChangeSpec} {W W' : World} {args : Array Value} {ds gs : List (DataW H)} {before : List MemPlace} {tb : TypeId}
    (hl : laidOutB P = true) (hT : ∀ t ∈ f.params.toList, P.readableRec t = true ∧ t < P.types.size) (hv : s.vars = []) (hrt : f.resultTypes = #[tb]) (hb : P.underlying tb = some .bool)
    (hW : DataW.Whole enc P f.params.toList s.vars false W args.toList ds gs before) (hfn : s.fn H (ds ++ gs) = { results := [.lit (.bool true)], args := ds ++ gs }) (hg : Frm W W') :
    s.post enc P f false true false false W args (.bool true) W' := by
  have hW' := hW
  have hlt := hW.lt
  obtain ⟨p, q, hA, hV, rfl, _, _⟩ := hW
  rw [hv] at hV
  obtain ⟨rfl, rfl⟩ := trodVars_none hV
  have hrl : (Value.bool true).resultList f.resultTypes.size = [.bool true] := by rw [hrt]; rfl
  simp only [List.append_nil] at hlt hfn
  refine post_frm (pa := p) (pv := []) hW' (fun _ _ _ => ?_) (fun sp hsp => ?_) (fun _ _ => ?_) rfl hg (ok_one hrt rfl (okWide_bool_mk hb _))
  · rw [hrt]
    simp only [List.append_nil, hfn]
    exact trodAll_cons_mk (shut_bool hb _) trodAll_mk0
  · simp only [List.append_nil, hfn]
    exact trodAll_frm hl hg hT hA hlt (fun x hx => hsp x (by simpa using hx))
  · simp only [List.append_nil, hfn, hv]
    rfl
end Go.Sv
namespace Go.Proofs.YtffaoehhhdcjjaaDoor
open Go Go.Sv Go.RowKit Go.ChangeShapes Go.WideShapes Go.Deep

theorem laidOut : laidOutB Tryd.prog = true := by kernel_rfl
theorem own : ownKnob Tryd.prog.godebug = none := by kernel_rfl

section
variable {H : Type} {P : Program} {enc : TypeId × Value → H} {w : World} {base : Nat} {spare : Nat → Bool} {held : Bool}
theorem bulkAll_eq : ∀ l : List (DataW H), Rows.uptoBulkAll l = (l.map Rows.uptoBulk).sum
  | [] => by simp [Rows.uptoBulkAll]
  | d :: l => by simp only [Rows.uptoBulkAll, List.map_cons, List.sum_cons, bulkAll_eq l]
theorem bulk_slice (es rs : List (DataW H)) : Rows.uptoBulk (.slice es rs) = (es.map Rows.uptoBulk).sum + (rs.map Rows.uptoBulk).sum + 1 := by simp only [Rows.uptoBulk, bulkAll_eq]
theorem bulk_agg (es : List (DataW H)) : Rows.uptoBulk (.agg es) = (es.map Rows.uptoBulk).sum + 1 := by simp only [Rows.uptoBulk, bulkAll_eq]
theorem bulk_nil : Rows.uptoBulk (.nil : DataW H) = 1 := by simp only [Rows.uptoBulk]
theorem bulk_str (l : List UInt8) : Rows.uptoBulk (.lit (.string l) : DataW H) = l.length + 1 := by simp only [Rows.uptoBulk]
/-- a slice of records: what they are, where they lie, and what they hold together -/
theorem open_recs {t e : TypeId} {fuel : Nat} {cs : List Value} {x : DataW H × List MemPlace} {α : Type} (cells : α → List Value) (wt : α → Nat) (Q : α → Prop) (ht : P.underlying t = some (.slice e))
    (h : DataW.trod enc P w base spare held fuel t cs = some x)
    (hrec : ∀ k cs' y, cs'.length = P.cellsOf e → DataW.trod enc P w base spare held k e cs' = some y → ∃ r, cs' = cells r ∧ Q r ∧ wt r ≤ Rows.uptoBulk y.1) :
    ∃ (p : Option Addr) (c : Nat) (rs : List α), cs = [.slice p rs.length c] ∧ rs.length ≤ c ∧ c ≤ maxLen ∧ Im [] w p (rs.flatMap cells) ∧ (∀ r ∈ rs, Q r) ∧ (rs.map wt).sum + 1 ≤ Rows.uptoBulk x.1 := by
  rcases open_slice ht h with ⟨rfl, rfl⟩ | ⟨a, len, cap, m, n, D, Pl, rfl, _, hl, hm, hmm, rfl, hi⟩
  · exact ⟨none, 0, [], rfl, Nat.le_refl _, Nat.zero_le _, .inl rfl, by simp, by simp [bulk_nil]⟩
  · have hlm : len ≤ m := by rw [hmm]; split <;> omega
    have key : ∀ n : Nat, n ≤ len → ∃ rs : List α, rs.length = n ∧ rs.flatMap cells = (List.range n).flatMap (fun i => (w.cells? base (a.add (i * P.cellsOf e)) (P.cellsOf e)).getD []) ∧ (∀ r ∈ rs, Q r) ∧ (rs.map wt).sum ≤ ((List.range n).map fun i => Rows.uptoBulk (D i)).sum := by
      intro n
      induction n with
      | zero => intro _; exact ⟨[], rfl, rfl, by simp, by simp⟩
      | succ n ih =>
        intro hn
        obtain ⟨rs, h1, h2, h3, h4⟩ := ih (by omega)
        obtain ⟨cs', h5, h6⟩ := hi n (by omega)
        obtain ⟨_, hcl, _⟩ := World.cells?_some h5
        obtain ⟨r, h7, h8, h9⟩ := hrec _ _ _ hcl h6
        refine ⟨rs ++ [r], by simp [h1], ?_, ?_, ?_⟩
        · rw [List.range_succ, List.flatMap_append, List.flatMap_append, h2]
          simp [h5, h7]
        · intro x hx
          rcases List.mem_append.1 hx with hx | hx
          · exact h3 x hx
          · rw [List.mem_singleton.1 hx]; exact h8
        · rw [List.range_succ, List.map_append, List.map_append, List.sum_append, List.sum_append]
          simp only [List.map_cons, List.map_nil, List.sum_cons, List.sum_nil]
          dsimp only at h9
          omega
    obtain ⟨rs, h1, h2, h3, h4⟩ := key len (Nat.le_refl _)
    refine ⟨some a, cap, rs, by rw [h1], by omega, hm, ?_, h3, ?_⟩
    · rw [h2]
      have hsr := seg_range (w := w) (a := a) (k := P.cellsOf e) (fun i => (w.cells? base (a.add (i * P.cellsOf e)) (P.cellsOf e)).getD []) len (fun i hil => by
        obtain ⟨cs', h5, _⟩ := hi i (by omega)
        obtain ⟨_, hcl, hat⟩ := World.cells?_some h5
        rw [h5]
        exact ⟨hcl, fun j hj => hat j (by simpa [hcl] using hj)⟩)
      generalize (List.range len).flatMap (fun i => (w.cells? base (a.add (i * P.cellsOf e)) (P.cellsOf e)).getD []) = L at *
      cases L with
      | nil => exact .inl rfl
      | cons v L =>
        refine .inr ⟨a, rfl, hsr.1, ?_, by simp⟩
        have := hsr.1 0 (by simp)
        have h0 : w.cell? (a.add 0) = some v := this
        have := cell_lt h0
        rwa [add_block] at this
    · rw [bulk_slice, List.map_map]
      have : ((List.range len).map (Rows.uptoBulk ∘ D)).sum = ((List.range len).map fun i => Rows.uptoBulk (D i)).sum := rfl
      omega
theorem str_of (s : ByteArray) : Value.string s = str s.data.toList := by cases s; rfl
/-- a cell that is a text -/
theorem open_strc {t : TypeId} {fuel : Nat} {cs : List Value} {x : DataW H × List MemPlace} (ht : P.underlying t = some .string) (h : DataW.trod enc P w base spare held fuel t cs = some x) : ∃ l : List UInt8, cs = [str l] ∧ Rows.uptoBulk x.1 = l.length + 1 := by
  obtain ⟨s, rfl, rfl, _⟩ := DataW.trod_string ht h
  exact ⟨s.data.toList, by rw [str_of], bulk_str _⟩
theorem small_le {ds : List (DataW H)} (hk : Rows.uptoSmall H ds = true) : (ds.map Rows.uptoBulk).sum ≤ 1048576 := by
  have := of_decide_eq_true hk
  rwa [bulkAll_eq] at this
end
end Go.Proofs.YtffaoehhhdcjjaaDoor

/-
  Readings of arguments of one cell: texts.
-/
set_option linter.unusedSimpArgs false
set_option linter.unusedVariables false
set_option linter.unnecessarySimpa false
namespace Go.Proofs.YtffaoehhhdcjjaaDoor
open Go Go.Sv Go.RowKit Go.ChangeShapes Go.WideShapes Go.Deep
section
variable {H : Type} {enc : TypeId × Value → H} {w : World} {base : Nat} {spare : Nat → Bool} {held : Bool}
set_option maxRecDepth 100000 in
theorem open_str1 {v : Value} {d : DataW H} {ps : List MemPlace} {r : Reach} {b0 : Nat} (hv : Value.okWide Tryd.prog w r b0 9 v) (h : DataW.Trod enc Tryd.prog w base spare held 9 v d ps) :
    ∃ l : List UInt8, v = str l ∧ l.length + 1 ≤ Rows.uptoBulk d := by
  obtain ⟨s, rfl⟩ := okWide_string Tryd.underlying9 hv
  obtain ⟨fuel, hf⟩ := h
  obtain ⟨l, e, hw⟩ := open_strc Tryd.underlying9 hf
  dsimp only at hw
  exact ⟨l, by simpa [Value.cells] using e, by omega⟩
end
end Go.Proofs.YtffaoehhhdcjjaaDoor

/-
  Readings of attributes: what lies in memory.
-/
set_option linter.unusedSimpArgs false
set_option linter.unusedVariables false
set_option linter.unnecessarySimpa false
namespace Go.Proofs.YtffaoehhhdcjjaaDoor
open Go Go.Sv Go.RowKit Go.ChangeShapes Go.WideShapes Go.Deep

theorem c_str : Tryd.prog.cellsOf 9 = 1 := by kernel_rfl
section
variable {H : Type} {enc : TypeId × Value → H} {w : World} {base : Nat} {spare : Nat → Bool} {held : Bool}
end
end Go.Proofs.YtffaoehhhdcjjaaDoor

/-
  Readings of lists of attributes; a world for the witness of cards that list the tables of package utf8.
-/
set_option linter.unusedSimpArgs false
set_option linter.unusedVariables false
set_option linter.unnecessarySimpa false
namespace Go.Proofs.YtffaoehhhdcjjaaDoor
open Go Go.Sv Go.RowKit Go.ChangeShapes Go.WideShapes Go.Deep
noncomputable def utfHeap (h : Array Obj) : Array Obj :=
  (h.modify 2 fun
    | .cells _ t f => .cells (Go.Pinned.utf8FirstZ.map fun (z : Nat) => Value.int .u8 z).toArray t f | o => o).modify 3 fun
    | .cells _ t f => .cells (([128, 191, 160, 191, 128, 159, 144, 191, 128, 143] ++ List.replicate 22 0 : List Int).map fun z => Value.int .u8 z).toArray t f | o => o
noncomputable def utfWorld (os : Os) : World := { World.holding Tryd.prog os ⟨#[], #[], []⟩ with heap := utfHeap (World.holding Tryd.prog os ⟨#[], #[], []⟩).heap }
end Go.Proofs.YtffaoehhhdcjjaaDoor

/-
  Readings of lists of candidates.
-/
set_option linter.unusedSimpArgs false
set_option linter.unusedVariables false
set_option linter.unnecessarySimpa false
namespace Go.Proofs.YtffaoehhhdcjjaaDoor
open Go Go.Sv Go.RowKit Go.ChangeShapes Go.WideShapes Go.Deep
theorem c_cand : Tryd.prog.cellsOf 54 = 2 := by kernel_rfl
section
variable {H : Type} {enc : TypeId × Value → H} {w : World} {base : Nat} {spare : Nat → Bool} {held : Bool}
set_option maxRecDepth 100000 in
theorem open_cand {fuel : Nat} {cs : List Value} {x : DataW H × List MemPlace} (h : DataW.trod enc Tryd.prog w base spare held fuel 54 cs = some x) : ∃ r : At, cs = r.cells ∧ True ∧ r.wt ≤ Rows.uptoBulk x.1 := by
  obtain ⟨xs, n, _, rfl, hl, hlen, hf⟩ := DataW.trod_struct Tryd.underlying54 h
  rw [c_cand] at hl
  have f0 := hf 0 _ rfl
  have f1 := hf 1 _ rfl
  clear hf h
  match cs, hl with
  | [c0, c1], _ =>
    match xs, hlen with
    | [y0, y1], _ =>
      simp only [c_str, List.drop_zero, List.drop_succ_cons, List.take_succ_cons, List.take_zero, List.getElem?_cons_zero, List.getElem?_cons_succ] at f0 f1
      obtain ⟨l0, e0, b0⟩ := open_strc Tryd.underlying9 f0
      obtain ⟨l1, e1, b1⟩ := open_strc Tryd.underlying9 f1
      injection e0 with e0
      injection e1 with e1
      subst e0 e1
      refine ⟨⟨l0, l1⟩, rfl, trivial, ?_⟩
      rw [bulk_agg]
      simp only [List.map_cons, List.map_nil, List.sum_cons, List.sum_nil, b0, b1, At.wt]
      omega
end
set_option maxRecDepth 100000 in
theorem open_cands {H : Type} {enc : TypeId × Value → H} {w : World} {base : Nat} {spare : Nat → Bool} {held : Bool} {v : Value} {d : DataW H} {ps : List MemPlace} {r : Reach} {b0 : Nat} (hv : Value.okWide Tryd.prog w r b0 49 v) (h : DataW.Trod enc Tryd.prog w base spare held 49 v d ps) :
    ∃ (p : Option Addr) (c : Nat) (es : List At), v = .slice p es.length c ∧ Im [] w p (es.flatMap At.cells) ∧ (es.map At.wt).sum + 1 ≤ Rows.uptoBulk d := by
  obtain ⟨a, n, cc, rfl⟩ := okWide_slice Tryd.underlying49 hv
  obtain ⟨fuel, hf⟩ := h
  obtain ⟨p, c, es, e, _, _, him, _, hw⟩ := open_recs At.cells At.wt (fun _ => True) Tryd.underlying49 hf (fun k cs' y _ hy => open_cand hy)
  have e' : Value.slice a n cc = .slice p es.length c := by simpa [Value.cells] using e
  exact ⟨p, c, es, e', him, hw⟩
end Go.Proofs.YtffaoehhhdcjjaaDoor

