/-
  Package sieveref12: Dots.
-/
import Derived.Test.YtffaoehhhdcjjaaSvLkF
set_option linter.unusedSimpArgs false
set_option linter.unusedVariables false
set_option linter.unnecessarySimpa false
namespace Go.Proofs.Ytffaoehhhdcjjaa
open Go Go.Sv Go.RowKit

theorem mem_at (sm : List UInt8) (n : Nat) (hn : n < 256) : UInt8.ofNat n ∈ sm ↔ ∃ k, k < sm.length ∧ at0 sm k = n := by
  constructor
  · intro h
    obtain ⟨k, hk, he⟩ := List.mem_iff_getElem.1 h
    refine ⟨k, hk, ?_⟩
    simp only [at0, List.getElem?_eq_getElem hk, Option.getD_some, he]
    rw [UInt8.toNat_ofNat_of_lt' (by simpa using hn)]
  · rintro ⟨k, hk, he⟩
    have : sm[k] = UInt8.ofNat n := by rw [← he]; simp [at0, hk]
    rw [← this]; exact List.getElem_mem hk
set_option maxHeartbeats 1000000 in
theorem upTo_ok (l sm : List UInt8) (hb : l.length ≤ 4611686018427387904) (hb2 : sm.length ≤ 4611686018427387904) (w : World) : PureC Try.prog 35 #[str l, str sm] w (int (upR l sm)) := by
  refine enter (l := [str l, str sm]) Try.func35 rfl Try.ntmps35 (by kernel_rfl) rfl ?_
  refine sgo ?_
  refine wcloop (X := Nat) (fun i => [(0, str l), (1, str sm), (8, int l.length), (9, int i)])
    (fun i wr => i ≤ l.length ∧ (∀ j, j < i → UInt8.ofNat (at0 l j) ∉ sm) ∧ Frm w wr) (fun i => l.length - i) 0 ⟨rfl, rfl, rfl, rfl, trivial⟩ ⟨by omega, by omega, Frm.refl _⟩ ?_
  rintro i wr ρ ⟨hi, hj, hfr⟩
  refine sgo ?_
  (show WC _ _ _ _ _ _ _; first | refine WC_dec rfl (fun hc => ?_) (fun hc => ?_) | refine WC_cond rfl (fun hc => ?_) (fun hc => ?_))
  · have hil : i < l.length := by omega
    have hmem := mem_at sm (at0 l i) (at_lt l i)
    refine sgo ?_
    refine wcloop (X := Nat) (fun k => [(0, str l), (1, str sm), (5, int i), (8, int l.length), (9, int i), (13, int sm.length), (14, int k)])
      (fun k wr => k ≤ sm.length ∧ (∀ j, j < k → at0 sm j ≠ at0 l i) ∧ Frm w wr) (fun k => sm.length - k) 0 ⟨rfl, rfl, rfl, rfl, rfl, rfl, rfl, trivial⟩ ⟨by omega, by omega, hfr⟩ ?_
    rintro k wr' ρ' ⟨hk, hkj, hfr'⟩
    refine sgo ?_
    (show WC _ _ _ _ _ _ _; first | refine WC_dec rfl (fun hc => ?_) (fun hc => ?_) | refine WC_cond rfl (fun hc => ?_) (fun hc => ?_))
    · have hks : k < sm.length := by omega
      refine sgo ?_
      refine wcdraw ?_
      refine qgo ?_
      refine QL_nil ?_
      intro wd hwd
      replace hfr' := hfr'.trans hwd
      clear hwd
      refine sgo ?_
      (show WC _ _ _ _ _ _ _; first | refine WC_dec rfl (fun hc => ?_) (fun hc => ?_) | refine WC_cond rfl (fun hc => ?_) (fun hc => ?_))
      · have hin : UInt8.ofNat (at0 l i) ∈ sm := hmem.2 ⟨k, hks, by simp only [at0]; omega⟩
        have hup := upR_at l sm i hil hj hin
        refine sgo ?_
        (first | refine fp1 (.inl rfl) rfl rfl ?_ | refine fp2 (.inl rfl) rfl rfl rfl ?_ | refine fp3 (.inl rfl) rfl rfl rfl rfl ?_ | refine fp0 (.inr rfl) rfl ?_ | refine fp0 (.inl rfl) rfl ?_ | refine fp1 (.inr rfl) rfl rfl ?_); refine ⟨?_, by (first | exact Frm.refl _ | assumption | (refine Frm.trans ?_ (by assumption); first | exact Frm.refl _ | assumption))⟩; (try simp only [realB, rv_true, Nat.reduceBEq, cond_true, cond_false, entG, real_lif, updGL])
        rw [hup]
      · refine sgo ?_
        refine ⟨k + 1, ⟨rfl, rfl, rfl, rfl, rfl, rfl, rfl, trivial⟩, ⟨by omega, ?_, hfr'⟩, by omega⟩
        intro j hj'
        rcases Nat.lt_or_ge j k with h | h
        · exact hkj j h
        · obtain rfl : j = k := by omega
          simp only [at0]
          omega
    · obtain rfl : k = sm.length := by omega
      refine sgo ?_
      refine ⟨i + 1, ⟨rfl, rfl, rfl, rfl, trivial⟩, ⟨by omega, ?_, hfr'⟩, by omega⟩
      intro j hj'
      rcases Nat.lt_or_ge j i with h | h
      · exact hj j h
      · obtain rfl : j = i := by omega
        intro hm
        obtain ⟨k, hk', he⟩ := hmem.1 hm
        exact hkj k hk' he
  · obtain rfl : i = l.length := by omega
    have hup := upR_all l sm hj
    refine sgo ?_
    (first | refine fp1 (.inl rfl) rfl rfl ?_ | refine fp2 (.inl rfl) rfl rfl rfl ?_ | refine fp3 (.inl rfl) rfl rfl rfl rfl ?_ | refine fp0 (.inr rfl) rfl ?_ | refine fp0 (.inl rfl) rfl ?_ | refine fp1 (.inr rfl) rfl rfl ?_); refine ⟨?_, by (first | exact Frm.refl _ | assumption | (refine Frm.trans ?_ (by assumption); first | exact Frm.refl _ | assumption))⟩; (try simp only [realB, rv_true, Nat.reduceBEq, cond_true, cond_false, entG, real_lif, updGL])
    rw [hup]
set_option maxHeartbeats 2000000 in
theorem refDots_ok (t : List UInt8) (hb : t.length ≤ 4611686018427387904) (w : World) : PureC Try.prog 15 #[str t] w (str (dotsL t [])) := by
  refine enter (l := [str t]) Try.func15 rfl Try.ntmps15 (by kernel_rfl) rfl ?_
  refine sgo ?_
  refine wcloop (X := List UInt8 × List UInt8) (fun x => [(0, str x.1), (3, str x.2)])
    (fun x wr => dotsL x.1 x.2 = dotsL t [] ∧ x.1.length + x.2.length ≤ t.length ∧ Frm w wr) (fun x => x.1.length) (t, []) ⟨rfl, rfl, trivial⟩ ⟨rfl, by simp, Frm.refl _⟩ ?_
  rintro ⟨l, o⟩ wr ρ ⟨he, hlen, hfr⟩
  dsimp only at he hlen ⊢
  refine sgo ?_
  (show WC _ _ _ _ _ _ _; first | refine WC_dec rfl (fun hc => ?_) (fun hc => ?_) | refine WC_cond rfl (fun hc => ?_) (fun hc => ?_))
  · have hne : l ≠ [] := by simpa using hc
    clear hc
    have h0 : 0 < l.length := List.length_pos_iff.2 hne
    have fin : ∀ l' o' w', dotStep l o = (l', o') → Frm w w' → (dotsL l' o' = dotsL t [] ∧ l'.length + o'.length ≤ t.length ∧ Frm w w') ∧ l'.length < l.length := by
      intro l' o' w' h hw'
      have h1 := dotsL_step l o hne
      have h2 := dotStep_lt l o hne
      have h3 := dotStep_len l o
      rw [h] at h1 h2 h3
      exact ⟨⟨by rw [← h1]; exact he, by dsimp only at h3; omega, hw'⟩, h2⟩
    clear he
    refine sgo ?_
    refine wlpure (begins_ok l [46, 46, 47] _) fun w2 hf2 => ?_
    replace hfr := hfr.trans hf2
    clear hf2
    cases g1 : pfx [46, 46, 47] l with
    | true =>
      have hl := pfx_len g1
      simp only [List.length_cons, List.length_nil] at hl
      have hds : dotStep l o = (l.drop 3, o) := by unfold dotStep; rw [if_pos g1]
      unfold pfx at g1
      rw [g1]
      refine sgo ?_
      exact ⟨(l.drop 3, o), ⟨rfl, rfl, trivial⟩, fin _ _ _ hds hfr⟩
    | false =>
    have g1' : [46, 46, 47].isPrefixOf l = false := g1
    rw [g1']
    refine sgo ?_
    refine wlpure (begins_ok l [46, 47] _) fun w3 hf3 => ?_
    replace hfr := hfr.trans hf3
    clear hf3
    cases g2 : pfx [46, 47] l with
    | true =>
      have hl := pfx_len g2
      simp only [List.length_cons, List.length_nil] at hl
      have hds : dotStep l o = (l.drop 2, o) := by unfold dotStep; simp only [g1, g2, if_true, Bool.false_eq_true, if_false]
      unfold pfx at g2
      rw [g2]
      refine sgo ?_
      exact ⟨(l.drop 2, o), ⟨rfl, rfl, trivial⟩, fin _ _ _ hds hfr⟩
    | false =>
    have g2' : [46, 47].isPrefixOf l = false := g2
    rw [g2']
    refine sgo ?_
    refine wlpure (begins_ok l [47, 46, 47] _) fun w4 hf4 => ?_
    replace hfr := hfr.trans hf4
    clear hf4
    cases g3 : pfx [47, 46, 47] l with
    | true =>
      have hl := pfx_len g3
      simp only [List.length_cons, List.length_nil] at hl
      have hds : dotStep l o = (l.drop 2, o) := by unfold dotStep; simp only [g1, g2, g3, if_true, Bool.false_eq_true, if_false]
      unfold pfx at g3
      rw [g3]
      refine sgo ?_
      exact ⟨(l.drop 2, o), ⟨rfl, rfl, trivial⟩, fin _ _ _ hds hfr⟩
    | false =>
    have g3' : [47, 46, 47].isPrefixOf l = false := g3
    rw [g3']
    refine sgo ?_
    (show WC _ _ _ _ _ _ _; first | refine WC_dec rfl (fun hc => ?_) (fun hc => ?_) | refine WC_cond rfl (fun hc => ?_) (fun hc => ?_))
    · have hds : dotStep l o = ([47], o) := by unfold dotStep; simp only [g1, g2, g3, if_true, Bool.false_eq_true, if_false]; rw [if_pos hc]
      refine sgo ?_
      exact ⟨([47], o), ⟨rfl, rfl, trivial⟩, fin _ _ _ hds hfr⟩
    have g4 := hc
    clear hc
    refine sgo ?_
    refine wlpure (begins_ok l [47, 46, 46, 47] _) fun w5 hf5 => ?_
    replace hfr := hfr.trans hf5
    clear hf5
    have e5 : [47, 46, 46, 47].isPrefixOf l = pfx [47, 46, 46, 47] l := rfl
    rw [e5]
    refine sgo ?_
    (show WC _ _ _ _ _ _ _; first | refine WC_dec rfl (fun hc => ?_) (fun hc => ?_) | refine WC_cond rfl (fun hc => ?_) (fun hc => ?_))
    · have hcc : pfx [47, 46, 46, 47] l = true ∨ l = [47, 46, 46] := by simpa [pkb_or] using hc
      clear hc
      obtain ⟨l', hl', hds⟩ : ∃ l', (l' = if l = [47, 46, 46] then [47] else l.drop 3) ∧ dotStep l o = (l', parR o) := by
        refine ⟨_, rfl, ?_⟩
        unfold dotStep
        simp only [g1, g2, g3, g4, Bool.false_eq_true, if_false]
        rcases hcc with h | h
        · have hl := pfx_len h
          have hne' : l ≠ [47, 46, 46] := by intro h'; rw [h'] at hl; simp at hl
          rw [if_pos h, if_neg hne']
        · rw [if_neg (by rw [h]; decide), if_pos h, if_pos h]
      have hl3 : 3 ≤ l.length := by
        rcases hcc with h | h
        · have := pfx_len h; simp only [List.length_cons, List.length_nil] at this; omega
        · rw [h]; decide
      refine sgo ?_
      refine wcutn (X := Unit) (fun _ => [(0, str l'), (3, str o)]) (fun _ w' => Frm w w') ?_ ?_
      · (show WC _ _ _ _ _ _ _; first | refine WC_dec rfl (fun hc => ?_) (fun hc => ?_) | refine WC_cond rfl (fun hc => ?_) (fun hc => ?_))
        · rw [if_pos hc] at hl'
          subst hl'
          refine sgo ?_
          exact ⟨(), ⟨rfl, rfl, trivial⟩, hfr⟩
        · rw [if_neg hc] at hl'
          subst hl'
          refine sgo ?_
          exact ⟨(), ⟨rfl, rfl, trivial⟩, hfr⟩
      rintro ⟨⟩ w6 ρ6 hf6
      refine sgo ?_
      refine wcloop (X := Nat) (fun n => [(0, str l'), (3, str o), (4, int n)]) (fun n wr => n ≤ o.length ∧ lastF o 47 n = lastR o 47 ∧ Frm w wr) (fun n => n) o.length ⟨rfl, rfl, rfl, trivial⟩ ⟨Nat.le_refl _, rfl, hf6⟩ ?_
      rintro n w7 ρ7 ⟨hn, hlf, hf7⟩
      rcases n with _ | k
      · have hpr : parR o = o.take 0 := by unfold parR; rw [← hlf]; rfl
        rw [hpr] at hds
        refine sgo ?_
        (show WC _ _ _ _ _ _ _; first | refine WC_dec rfl (fun hc => ?_) (fun hc => ?_) | refine WC_cond rfl (fun hc => ?_) (fun hc => ?_))
        · exfalso
          simp [pkb_and] at hc
        · refine sgo ?_
          exact ⟨(l', o.take 0), ⟨rfl, rfl, trivial⟩, fin _ _ _ hds hf7⟩
      · simp only [lastF] at hlf
        have e : (((k + 1 : Nat) : Int) - 1).toNat = k := by omega
        refine sgo ?_
        rw [e]
        (show WC _ _ _ _ _ _ _; first | refine WC_dec rfl (fun hc => ?_) (fun hc => ?_) | refine WC_cond rfl (fun hc => ?_) (fun hc => ?_))
        · have hc' : ¬ at0 o k = 47 := by simp only [pkb_and, Bool.and_eq_true, decide_eq_true_eq] at hc; simp only [at0]; omega
          rw [if_neg hc'] at hlf
          have ek : ((k + 1 : Nat) : Int) - 1 = k := by omega
          refine sgo ?_
          rw [ek]
          exact ⟨k, ⟨rfl, rfl, congrArg int (by omega), trivial⟩, ⟨by omega, hlf, hf7⟩, by omega⟩
        · have hc' : at0 o k = 47 := by
            have h0 : (0 : Int) < ((k + 1 : Nat) : Int) := by omega
            simp only [pkb_and, h0, decide_true, Bool.true_and, decide_eq_false_iff_not, ne_eq, Decidable.not_not] at hc; simp only [at0]; omega
          rw [if_pos hc'] at hlf
          have hmx : (max (k : Int) 0).toNat = k := by omega
          have hpr : parR o = o.take k := by unfold parR; rw [← hlf, hmx]
          rw [hpr] at hds
          have h0 : (0 : Int) < ((k + 1 : Nat) : Int) := by omega
          clear hc hc'
          refine sgo ?_
          (show WC _ _ _ _ _ _ _; first | refine WC_dec rfl (fun hc => ?_) (fun hc => ?_) | refine WC_cond rfl (fun hc => ?_) (fun hc => ?_))
          · refine sgo ?_
            exact ⟨(l', o.take k), ⟨rfl, congrArg (fun n => str (o.take n)) e, trivial⟩, fin _ _ _ hds hf7⟩
          · exact absurd h0 (by simpa using hc)
    have hcc : pfx [47, 46, 46, 47] l = false ∧ ¬ l = [47, 46, 46] := by simpa [pkb_or] using hc
    clear hc
    obtain ⟨g5, g6⟩ := hcc
    refine sgo ?_
    (show WC _ _ _ _ _ _ _; first | refine WC_dec rfl (fun hc => ?_) (fun hc => ?_) | refine WC_cond rfl (fun hc => ?_) (fun hc => ?_))
    · have hds : dotStep l o = ([], o) := by
        unfold dotStep; simp only [g1, g2, g3, g4, g5, g6, if_true, Bool.false_eq_true, if_false]
        rw [if_pos (by simpa [pkb_or] using hc)]
      refine sgo ?_
      exact ⟨([], o), ⟨rfl, rfl, trivial⟩, fin _ _ _ hds hfr⟩
    have g7 : ¬ (l = [46] ∨ l = [46, 46]) := by simpa [pkb_or] using hc
    clear hc
    have hds : dotStep l o = (l.drop (segN l), o ++ l.take (segN l)) := by unfold dotStep; simp only [g1, g2, g3, g4, g5, g6, g7, if_true, Bool.false_eq_true, if_false]
    have hup := upR_le (l.drop 1) [47]
    have hdl : (l.drop 1).length = l.length - 1 := by simp
    have hl0 : at0 l 0 ≠ 47 → upR l [47] = upR (l.drop 1) [47] + 1 := by
      intro h
      cases l with
      | nil => exact absurd rfl hne
      | cons c l =>
        rw [upR_cons, if_neg]
        · rfl
        · intro hm
          simp only [List.mem_singleton] at hm
          subst hm
          exact h rfl
    unfold segN at hds
    refine sgo ?_
    refine wlpure (upTo_ok (l.drop 1) [47] (by omega) (by decide) _) fun w6 hf6 => ?_
    replace hfr := hfr.trans hf6
    have hz : at0 l 0 < 256 := at_lt l 0
    generalize upR (l.drop 1) [47] = m at *
    have e : (1 + (m : Int)).toNat = 1 + m := by omega
    refine sgo ?_
    (show WC _ _ _ _ _ _ _; first | refine WC_dec rfl (fun hc => ?_) (fun hc => ?_) | refine WC_cond rfl (fun hc => ?_) (fun hc => ?_))
    · have hc2 : ((at0 l 0 : Nat) : Int) ≠ 47 := hc
      have h47 := hl0 (by omega)
      refine sgo ?_
      refine wlpure (upTo_ok l [47] (by omega) (by decide) _) fun w7 hf7 => ?_
      rw [h47]
      refine sgo ?_
      exact ⟨(l.drop (1 + m), o ++ l.take (1 + m)), ⟨congrArg (fun n => str (List.drop n l)) (Nat.add_comm _ _), congrArg (fun n => str (o ++ List.take n l)) (Nat.add_comm _ _), trivial⟩, fin _ _ _ hds (hfr.trans hf7)⟩
    · refine sgo ?_
      exact ⟨(l.drop (1 + m), o ++ l.take (1 + m)), ⟨congrArg (fun n => str (List.drop n l)) e, congrArg (fun n => str (o ++ List.take n l)) e, trivial⟩, fin _ _ _ hds hfr⟩
  · have hne : l = [] := by simpa using hc
    subst hne
    rw [dotsL_nil] at he
    refine sgo ?_
    (first | refine fp1 (.inl rfl) rfl rfl ?_ | refine fp2 (.inl rfl) rfl rfl rfl ?_ | refine fp3 (.inl rfl) rfl rfl rfl rfl ?_ | refine fp0 (.inr rfl) rfl ?_ | refine fp0 (.inl rfl) rfl ?_ | refine fp1 (.inr rfl) rfl rfl ?_); refine ⟨?_, by (first | exact Frm.refl _ | assumption | (refine Frm.trans ?_ (by assumption); first | exact Frm.refl _ | assumption))⟩; (try simp only [realB, rv_true, Nat.reduceBEq, cond_true, cond_false, entG, real_lif, updGL])
    rw [he]
end Go.Proofs.Ytffaoehhhdcjjaa
