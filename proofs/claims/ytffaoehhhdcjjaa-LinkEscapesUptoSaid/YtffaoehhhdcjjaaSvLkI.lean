/-
  Package sievelaw12: LinkEscapes, LinkNothing.
-/
import Derived.Test.YtffaoehhhdcjjaaSvLkG
import Derived.Test.YtffaoehhhdcjjaaSvLkH
set_option linter.unusedSimpArgs false
set_option linter.unusedVariables false
set_option linter.unnecessarySimpa false
namespace Go.Proofs.Ytffaoehhhdcjjaa
open Go Go.Sv Go.RowKit

set_option maxHeartbeats 1000000 in
theorem linkEscapes_ok (s path : List UInt8) (hs : s.length ≤ 1048576) (hp : path.length ≤ 1048576) (w : World) : PureC Try.prog 4 #[str s, str path] w (.bool true) := by
  refine enter (l := [str s, str path]) Try.func4 rfl Try.ntmps4 (by kernel_rfl) rfl ?_
  refine sgo ?_
  refine wlpure (encode_ok s (by omega) _) fun w1 hf1 => ?_
  refine sgo ?_
  refine wlpure (refEncode_ok s (by omega) _) fun w2 hf2 => ?_
  replace hf2 := hf1.trans hf2
  refine sgo ?_
  refine wlcallgp (vals := [str s]) (fun _ => decode_ok s (by omega) _) fun w3 hf3 => ?_
  replace hf3 := hf2.trans hf3
  refine sgo ?_
  refine wlcallgp (vals := [str s]) (fun _ => refDecode_ok s (by omega) _) fun w4 hf4 => ?_
  replace hf4 := hf3.trans hf4
  refine sgo ?_
  refine wlcallgp (vals := [str path]) (fun _ => dots_ok path (by omega) _) fun w5 hf5 => ?_
  replace hf5 := hf4.trans hf5
  refine sgo ?_
  refine wlcallgp (vals := [str path]) (fun _ => refMend_ok path (by omega) _) fun w6 hf6 => ?_
  replace hf6 := hf5.trans hf6
  have hml := mendR_len path
  refine sgo ?_
  refine wlcallgp (vals := [str (mendR path)]) (fun _ => refDots_ok (mendR path) (by omega) _) fun w7 hf7 => ?_
  replace hf7 := hf6.trans hf7
  refine sgo ?_
  refine wlcallgp (vals := []) (fun _ => awake_ok _) (fun w8 hf8 => ?_) (ha := fun _ => rfl)
  have hf := hf7.trans hf8
  refine sgo ?_
  (first | refine fp1 (.inl rfl) rfl rfl ?_ | refine fp2 (.inl rfl) rfl rfl rfl ?_ | refine fp3 (.inl rfl) rfl rfl rfl rfl ?_ | refine fp0 (.inr rfl) rfl ?_ | refine fp0 (.inl rfl) rfl ?_ | refine fp1 (.inr rfl) rfl rfl ?_); refine ⟨?_, by (first | exact Frm.refl _ | assumption | (refine Frm.trans ?_ (by assumption); first | exact Frm.refl _ | assumption))⟩; (try simp only [realB, rv_true, Nat.reduceBEq, cond_true, cond_false, entG, real_lif, updGL])
  simp [pkb_and]

/-! ## escaping hides nothing -/
def goodB (c : Nat) : Prop := 32 < c ∧ c < 127 ∧ c ≠ 34 ∧ c ≠ 60 ∧ c ≠ 62
theorem digs_good : ∀ q : Nat, q < 16 → (32 < (digs[q]?.getD 0).toNat ∧ (digs[q]?.getD 0).toNat < 127 ∧ (digs[q]?.getD 0).toNat ≠ 34 ∧ (digs[q]?.getD 0).toNat ≠ 60 ∧ (digs[q]?.getD 0).toNat ≠ 62) := by decide
theorem encC_good (c : UInt8) (cd : Bool) : ∀ x ∈ encC c.toNat cd, goodB x.toNat := by
  have hc := UInt8.toNat_lt c
  unfold encC
  intro x hx
  split at hx
  · simp only [pct, List.mem_cons, List.not_mem_nil, or_false] at hx
    rcases hx with rfl | rfl | rfl
    · exact ⟨by decide, by decide, by decide, by decide, by decide⟩
    · exact digs_good _ (by omega)
    · exact digs_good _ (by omega)
  · rename_i he
    simp only [List.mem_singleton] at hx
    subst hx
    simp only [UInt8.ofNat_toNat]
    simp only [escB, Bool.or_eq_true, decide_eq_true_eq, not_or, UInt8.ofNat_toNat] at he
    obtain ⟨⟨⟨h1, h2⟩, h3⟩, _⟩ := he
    refine ⟨by omega, by omega, ?_, ?_, ?_⟩ <;> (intro h; apply h3; have hcc : c = UInt8.ofNat c.toNat := (by simp); rw [hcc, h]; decide)
theorem encL_good : ∀ l : List UInt8, ∀ x ∈ encL l, goodB x.toNat
  | [], x, hx => by simp [encL] at hx
  | c :: t, x, hx => by
    simp only [encL, List.mem_append] at hx
    rcases hx with hx | hx
    · exact encC_good c _ x hx
    · exact encL_good t x hx
theorem ascii_valid : ∀ l : List UInt8, (∀ x ∈ l, x.toNat < 128) → validR l = true
  | [], _ => rfl
  | c :: t, h => by
    have hc := h c List.mem_cons_self
    have hr := right1 (c :: t) hc
    have hR := right_of _ hr
    have h1 : (pieceR (c :: t)).2.1 = 1 := by
      rcases hR with ⟨g1, hp⟩ | ⟨gl, g1, g2, g3, g4, hp⟩ | ⟨gl, g1, g2, g3, g4, g5, g6, g7, g8, hp⟩ | ⟨gl, g1, g2, g3, g4, g5, g6, g7, g8, g9, g10, hp⟩
      · rw [hp]
      all_goals (simp only [at0, List.getElem?_cons_zero, Option.getD_some] at g1; omega)
    refine valid_back (c :: t) (by simp) hr ?_
    rw [h1]
    exact ascii_valid t fun x hx => h x (List.mem_cons_of_mem _ hx)
theorem dig_val : ∀ q : Nat, q < 16 → (hexR (digs[q]?.getD 0).toNat = true ∧ valN (digs[q]?.getD 0).toNat = q) := by decide
theorem hex_plain : ∀ c : Nat, c < 256 → hexR c = true → escB c true = false ∧ escB c false = false ∧ c ≠ 37 := by decide +kernel
theorem codedS_two {t : List UInt8} (h : codedS t = true) : ∃ a b r, t = a :: b :: r ∧ hexR a.toNat = true ∧ hexR b.toNat = true := by
  simp only [codedS, Bool.and_eq_true, decide_eq_true_eq] at h
  obtain ⟨⟨h1, h2⟩, h3⟩ := h
  match t, h1 with
  | a :: b :: r, _ => exact ⟨a, b, r, rfl, h2, h3⟩
theorem decL_cons (c : UInt8) (t : List UInt8) : decL (c :: t) = if c = 37 ∧ codedS t = true then UInt8.ofNat (16 * valN (at0 t 0) + valN (at0 t 1)) :: decL (t.drop 2) else c :: decL t := by rw [decL]
theorem codedS_cons2 (a b : UInt8) (r : List UInt8) (ha : hexR a.toNat = true) (hb : hexR b.toNat = true) : codedS (a :: b :: r) = true := by
  simp only [codedS, Bool.and_eq_true, decide_eq_true_eq]
  exact ⟨⟨by simp, ha⟩, hb⟩
theorem encC_hex (a : UInt8) (cd : Bool) (h : hexR a.toNat = true) : encC a.toNat cd = [a] := by
  have hp := hex_plain a.toNat (UInt8.toNat_lt a) h
  unfold encC
  cases cd
  · rw [hp.2.1]; simp
  · rw [hp.1]; simp
theorem decL_encL : ∀ (n : Nat) (l : List UInt8), l.length ≤ n → decL (encL l) = decL l
  | _, [], _ => by simp [encL]
  | 0, c :: t, h => by simp at h
  | n + 1, c :: t, h => by
    simp only [List.length_cons] at h
    have hc := UInt8.toNat_lt c
    have ih := decL_encL n t (by omega)
    rw [decL_cons c t]
    simp only [encL]
    by_cases he : escB c.toNat (codedS t) = true
    · rw [encC, if_pos he]
      have hn : ¬ (c = 37 ∧ codedS t = true) := by
        rintro ⟨rfl, h2⟩
        rw [h2] at he
        revert he
        decide
      rw [if_neg hn]
      obtain ⟨a1, a2⟩ := dig_val (c.toNat / 16) (by omega)
      obtain ⟨b1, b2⟩ := dig_val (c.toNat % 16) (by omega)
      simp only [pct, List.cons_append, List.nil_append]
      rw [decL_cons, if_pos ⟨rfl, codedS_cons2 _ _ _ a1 b1⟩]
      simp only [at0, List.getElem?_cons_zero, List.getElem?_cons_succ, Option.getD_some, List.drop_succ_cons, List.drop_zero]
      rw [a2, b2, show 16 * (c.toNat / 16) + c.toNat % 16 = c.toNat by omega, ih]
      simp
    · have hcc : encC c.toNat (codedS t) = [c] := by rw [encC, if_neg he]; simp
      rw [hcc]
      simp only [List.cons_append, List.nil_append]
      by_cases h37 : c = 37 ∧ codedS t = true
      · obtain ⟨a, b, r, rfl, ha, hb⟩ := codedS_two h37.2
        rw [if_pos h37]
        have e : encL (a :: b :: r) = a :: b :: encL r := by
          simp only [encL]
          rw [encC_hex a _ ha, encC_hex b _ hb]
          rfl
        rw [e, decL_cons, if_pos ⟨h37.1, codedS_cons2 _ _ _ ha hb⟩]
        have ih2 := decL_encL n r (by simp only [List.length_cons] at h; omega)
        simp only [at0, List.getElem?_cons_zero, List.getElem?_cons_succ, Option.getD_some, List.drop_succ_cons, List.drop_zero]
        rw [ih2]
      · rw [if_neg h37, decL_cons]
        by_cases hc37 : c = 37
        · exfalso
          have hcd : codedS t = false := by
            cases hx : codedS t
            · rfl
            · exact absurd ⟨hc37, hx⟩ h37
          rw [hcd, hc37] at he
          exact he (by decide)
        · rw [if_neg (fun h => hc37 h.1), ih]
theorem decode_encode (s : List UInt8) : decodeR (encodeR s) = decodeR s := by
  unfold decodeR encodeR
  have hv : validR (encL (mendR s)) = true := ascii_valid _ fun x hx => by
    have := encL_good _ x hx
    exact Nat.lt_trans this.2.1 (by decide)
  rw [mendR_id hv, decL_encL _ _ (Nat.le_refl _)]
set_option maxHeartbeats 2000000 in
theorem linkNothing_ok (s : List UInt8) (hs : s.length ≤ 1048576) (w : World) : PureC Try.prog 5 #[str s] w (.bool true) := by
  refine enter (l := [str s]) Try.func5 rfl Try.ntmps5 (by kernel_rfl) rfl ?_
  refine sgo ?_
  refine wlpure (encode_ok s (by omega) _) fun w1 hf1 => ?_
  have hde := decode_encode s
  have hgood := encL_good (mendR s)
  have hlen := encL_len (mendR s)
  have hml := mendR_len s
  have hE : encodeR s = encL (mendR s) := rfl
  rw [← hE] at hgood hlen
  clear hE
  generalize encodeR s = e at *
  refine sgo ?_
  refine wcloop (X := Nat) (fun i => [(0, str s), (3, str e), (8, int e.length), (9, int i)])
    (fun i wr => i ≤ e.length ∧ Frm w wr) (fun i => e.length - i) 0 ⟨rfl, rfl, rfl, rfl, trivial⟩ ⟨by omega, hf1⟩ ?_
  rintro i wr ρ ⟨hi, hfr⟩
  refine sgo ?_
  (show WC _ _ _ _ _ _ _; first | refine WC_dec rfl (fun hc => ?_) (fun hc => ?_) | refine WC_cond rfl (fun hc => ?_) (fun hc => ?_))
  · have hil : i < e.length := by omega
    have hg := hgood e[i] (List.getElem_mem hil)
    have hat : at0 e i = e[i].toNat := by simp [at0, hil]
    rw [← hat] at hg
    simp only [at0] at hg
    clear hat hgood
    refine sgo ?_
    generalize (e[i]?.getD 0).toNat = c at *
    obtain ⟨q1, q2, q3, q4, q5⟩ := hg
    (show WC _ _ _ _ _ _ _; first | refine WC_dec rfl (fun hc => ?_) (fun hc => ?_) | refine WC_cond rfl (fun hc => ?_) (fun hc => ?_))
    · exfalso
      simp only [pkb_or, Bool.or_eq_true, decide_eq_true_eq] at hc
      omega
    · refine sgo ?_
      exact ⟨i + 1, ⟨rfl, rfl, rfl, rfl, trivial⟩, ⟨by omega, hfr⟩, by omega⟩
  · refine sgo ?_
    refine wlpure (decode_ok e (by omega) _) fun w2 hf2 => ?_
    replace hfr := hfr.trans hf2
    refine sgo ?_
    refine wlpure (decode_ok s (by omega) _) fun w3 hf3 => ?_
    replace hfr := hfr.trans hf3
    rw [hde]
    refine sgo ?_
    refine wlcallgp (vals := []) (fun _ => awake_ok _) (fun w8 hf8 => ?_) (ha := fun _ => rfl)
    replace hfr := hfr.trans hf8
    refine sgo ?_
    (first | refine fp1 (.inl rfl) rfl rfl ?_ | refine fp2 (.inl rfl) rfl rfl rfl ?_ | refine fp3 (.inl rfl) rfl rfl rfl rfl ?_ | refine fp0 (.inr rfl) rfl ?_ | refine fp0 (.inl rfl) rfl ?_ | refine fp1 (.inr rfl) rfl rfl ?_); refine ⟨?_, by (first | exact Frm.refl _ | assumption | (refine Frm.trans ?_ (by assumption); first | exact Frm.refl _ | assumption))⟩; (try simp only [realB, rv_true, Nat.reduceBEq, cond_true, cond_false, entG, real_lif, updGL])
    simp [pkb_and]
end Go.Proofs.Ytffaoehhhdcjjaa
