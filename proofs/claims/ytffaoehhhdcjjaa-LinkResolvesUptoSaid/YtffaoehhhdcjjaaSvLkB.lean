/-
  Package link: Scheme, percent escapes.
-/
import Derived.Test.YtffaoehhhdcjjaaSvLkA
set_option linter.unusedSimpArgs false
set_option linter.unusedVariables false
set_option linter.unnecessarySimpa false
namespace Go.Sv
open Go Go.RowKit
/-- a cut behind the code at hand -/
theorem wcutn {P : Program} {n : Nat} {ds : Ctx} {K : Ctx → Env → World → Prop} {Q : Exit → Ctx → Env → World → Prop} {σ : Env} {w : World} {a : Code} {X : Type} (sl : X → List (Nat × Value)) (I : X → World → Prop)
    (ha : WC P n ds a (thl ds (fun σ w => ∃ x, Has σ (sl x) ∧ I x w) Q) σ w) (hb : ∀ x w (ρ : GE), I x w → K ds (real (updGL ρ (sl x))) w) : WC P n ds a (thn K Q) σ w := by
  refine WC_mono ha ?_
  intro e c' σ' w' h
  unfold thl at h
  unfold thn
  cases e <;> try exact h
  obtain ⟨rfl, x, h1, h2⟩ := h
  have := hb x w' (lif σ') h2
  rw [← real_updL, updL_has h1] at this
  exact this
end Go.Sv
namespace Go.Proofs.Ytffaoehhhdcjjaa
open Go Go.Sv Go.RowKit

theorem stripR_len (l : List UInt8) : (stripR l).length ≤ 4 * l.length := by
  have h1 := encR_flat (stripN (runesN l))
  have h2 : (stripN (runesN l)).length ≤ (runesN l).length := by
    unfold stripN keepN cutT cutL
    refine Nat.le_trans (List.length_filter_le _ _) ?_
    rw [List.length_reverse]
    refine Nat.le_trans ((List.dropWhile_sublist _).length_le) ?_
    rw [List.length_reverse]
    exact (List.dropWhile_sublist _).length_le
  have h3 := runesN_len l
  unfold stripR; omega
theorem scheme2_ok (l : List UInt8) (hb : l.length ≤ 1073741824) (w : World) : PureC Try.prog 23 #[str l] w (.tuple #[str (lowR ((stripR l).take (schemeR (stripR l)).1)), .bool (schemeR (stripR l)).2]) := by
  refine enter (l := [str l]) Try.func23 rfl Try.ntmps23 (by kernel_rfl) rfl ?_
  refine sgo ?_
  refine wlpure (strip_ok l hb _) fun w1 hf1 => ?_
  have hl := stripR_len l
  generalize stripR l = s at *
  refine sgo ?_
  refine wlpure (scheme_ok s (by omega) _) fun w2 hf2 => ?_
  have hf := hf1.trans hf2
  have hle := schemeR_le s
  generalize schemeR s = m at *
  refine sgo ?_
  refine wlpure (lower_ok (s.take m.1) (by simp; omega) _) fun w3 hf3 => ?_
  have hf' := hf.trans hf3
  refine sgo ?_
  (first | refine fp1 (.inl rfl) rfl rfl ?_ | refine fp2 (.inl rfl) rfl rfl rfl ?_ | refine fp3 (.inl rfl) rfl rfl rfl rfl ?_ | refine fp0 (.inr rfl) rfl ?_ | refine fp0 (.inl rfl) rfl ?_ | refine fp1 (.inr rfl) rfl rfl ?_); refine ⟨?_, by (first | exact Frm.refl _ | assumption | (refine Frm.trans ?_ (by assumption); first | exact Frm.refl _ | assumption))⟩; (try simp only [realB, rv_true, Nat.reduceBEq, cond_true, cond_false, entG, real_lif, updGL])

/-- two hexadecimal digits ahead? -/
def codedR (l : List UInt8) (i : Nat) : Bool := decide (i + 2 < l.length) && hexR (at0 l (i + 1)) && hexR (at0 l (i + 2))
theorem coded_ok (l : List UInt8) (i : Nat) (hi : i ≤ l.length) (hb : l.length ≤ 4611686018427387904) (w : World) : PureC Try.prog 26 #[str l, int i] w (.bool (codedR l i)) := by
  refine enter (l := [str l, int i]) Try.func26 rfl Try.ntmps26 (by kernel_rfl) rfl ?_
  refine sgo ?_
  have h1 := at_lt l (i + 1)
  have h2 := at_lt l (i + 2)
  refine wlcallgp (vals := [i32 (at0 l (i + 1))]) (fun _ => hex_ok (at0 l (i + 1)) h1 _) fun w1 hf1 => ?_
  refine sgo ?_
  refine wlcallgp (vals := [i32 (at0 l (i + 2))]) (fun _ => hex_ok (at0 l (i + 2)) h2 _) fun w2 hf2 => ?_
  have hf := hf1.trans hf2
  refine sgo ?_
  (first | refine fp1 (.inl rfl) rfl rfl ?_ | refine fp2 (.inl rfl) rfl rfl rfl ?_ | refine fp3 (.inl rfl) rfl rfl rfl rfl ?_ | refine fp0 (.inr rfl) rfl ?_ | refine fp0 (.inl rfl) rfl ?_ | refine fp1 (.inr rfl) rfl rfl ?_); refine ⟨?_, by (first | exact Frm.refl _ | assumption | (refine Frm.trans ?_ (by assumption); first | exact Frm.refl _ | assumption))⟩; (try simp only [realB, rv_true, Nat.reduceBEq, cond_true, cond_false, entG, real_lif, updGL])
  refine congrArg Value.bool ?_
  unfold codedR
  rw [pkb_and, pkb_and]
  rw [show decide ((i : Int) + 2 < l.length) = decide (i + 2 < l.length) from decide_eq_decide.2 (by omega)]
theorem hexes_ok (l : List UInt8) (i : Nat) (hi : i ≤ l.length) (hb : l.length ≤ 4611686018427387904) (w : World) : PureC Try.prog 29 #[str l, int i] w (.bool (codedR l i)) := by
  refine enter (l := [str l, int i]) Try.func29 rfl Try.ntmps29 (by kernel_rfl) rfl ?_
  refine sgo ?_
  have h1 := at_lt l (i + 1)
  have h2 := at_lt l (i + 2)
  refine wlcallgp (vals := [i32 (at0 l (i + 1))]) (fun _ => hex4_ok (at0 l (i + 1)) h1 _) fun w1 hf1 => ?_
  refine sgo ?_
  refine wlcallgp (vals := [i32 (at0 l (i + 2))]) (fun _ => hex4_ok (at0 l (i + 2)) h2 _) fun w2 hf2 => ?_
  have hf := hf1.trans hf2
  refine sgo ?_
  (first | refine fp1 (.inl rfl) rfl rfl ?_ | refine fp2 (.inl rfl) rfl rfl rfl ?_ | refine fp3 (.inl rfl) rfl rfl rfl rfl ?_ | refine fp0 (.inr rfl) rfl ?_ | refine fp0 (.inl rfl) rfl ?_ | refine fp1 (.inr rfl) rfl rfl ?_); refine ⟨?_, by (first | exact Frm.refl _ | assumption | (refine Frm.trans ?_ (by assumption); first | exact Frm.refl _ | assumption))⟩; (try simp only [realB, rv_true, Nat.reduceBEq, cond_true, cond_false, entG, real_lif, updGL])
  refine congrArg Value.bool ?_
  unfold codedR
  rw [pkb_and, pkb_and]
  rw [show decide ((i : Int) + 2 < l.length) = decide (i + 2 < l.length) from decide_eq_decide.2 (by omega)]

def codedS (t : List UInt8) : Bool := decide (1 < t.length) && hexR (at0 t 0) && hexR (at0 t 1)
theorem at_drop (l : List UInt8) (i j : Nat) : at0 (l.drop i) j = at0 l (i + j) := by simp [at0]
theorem codedR_drop (l : List UInt8) (i : Nat) : codedR l i = codedS (l.drop (i + 1)) := by
  unfold codedR codedS
  rw [at_drop, at_drop]
  rw [show decide (1 < (l.drop (i + 1)).length) = decide (i + 2 < l.length) from decide_eq_decide.2 (by simp; omega)]
def badB : List UInt8 := [34, 60, 62, 92, 94, 96, 123, 124, 125]
def escB (c : Nat) (coded : Bool) : Bool := decide (c ≤ 32) || decide (127 ≤ c) || decide (UInt8.ofNat c ∈ badB) || (decide (c = 37) && !coded)
def digs : List UInt8 := [48, 49, 50, 51, 52, 53, 54, 55, 56, 57, 65, 66, 67, 68, 69, 70]
def pct (c : Nat) : List UInt8 := [37, digs[c / 16]?.getD 0, digs[c % 16]?.getD 0]
def encC (c : Nat) (coded : Bool) : List UInt8 := if escB c coded then pct c else [UInt8.ofNat c]
def encL : List UInt8 → List UInt8
  | [] => []
  | c :: t => encC c.toNat (codedS t) ++ encL t
def encodeR (s : List UInt8) : List UInt8 := encL (mendR s)
theorem encL_at (l : List UInt8) (i : Nat) (h : i < l.length) : encL (l.drop i) = encC (at0 l i) (codedR l i) ++ encL (l.drop (i + 1)) := by
  rw [List.drop_eq_getElem_cons h, encL, codedR_drop]
  simp [at0, h]
theorem encC_len (c : Nat) (b : Bool) : (encC c b).length ≤ 3 := by
  unfold encC
  split
  · simp [pct]
  · simp
theorem encL_len : ∀ l : List UInt8, (encL l).length ≤ 3 * l.length
  | [] => by simp [encL]
  | c :: t => by
    have h1 := encL_len t
    have h2 := encC_len c.toNat (codedS t)
    simp only [encL, List.length_append, List.length_cons]; omega
theorem indexByte_mem : ∀ (l : List UInt8) (c : UInt8), (0 ≤ Lib.indexByte l c) ↔ c ∈ l
  | [], c => by simp [Lib.indexByte]
  | b :: l, c => by
    have h := indexByte_mem l c
    have hg := Lib.indexByte_ge l c
    simp only [Lib.indexByte, List.mem_cons]
    by_cases hb : b = c
    · simp [hb]
    · have hb' : ¬ c = b := fun h => hb h.symm
      simp only [beq_iff_eq, hb, hb', if_false, false_or]
      split
      · rename_i h1
        rw [h1] at h
        rw [← h]
      · rw [← h]; omega
theorem indexByte_ok (s : List UInt8) (c : Nat) (w : World) : PureC Try.prog 25 #[str s, byt c] w (int (Lib.indexByte s (UInt8.ofNat c))) := by
  refine Calls.mono (Try.strings_IndexByte ⟨s.toArray⟩ c w) ?_
  rintro e w' ⟨rfl, rfl⟩
  exact ⟨_, rfl, rfl, Frm.refl _⟩
theorem sh4 (c : Nat) : (c : Int).fdiv (2 ^ (min (4 : Int).toNat IntKind.u8.bits)) = ((c / 16 : Nat) : Int) := fd c 16 (by decide)
theorem an15 (c : Nat) (hc : c < 256) : bitop .and .u8 (c : Int) 15 = ((c % 16 : Nat) : Int) := by revert hc; revert c; decide +kernel
set_option maxHeartbeats 2000000 in
theorem encode_ok (l : List UInt8) (hb : l.length ≤ 1073741824) (w : World) : PureC Try.prog 10 #[str l] w (str (encodeR l)) := by
  refine enter (l := [str l]) Try.func10 rfl Try.ntmps10 (by kernel_rfl) rfl ?_
  refine sgo ?_
  refine wlpure (mend_ok l hb _) fun w1 hf1 => ?_
  have hml := mendR_len l
  unfold encodeR
  generalize mendR l = t at *
  refine sgo ?_
  refine wlallocT fun b w0 hbw ha0 hf0 => ?_
  have hB0 : Bld TB TY w0 b none [] := Bld.new ha0
  refine sgo ?_
  refine wcloop (X := Nat × Option Addr × List UInt8) (fun x => [(0, str t), (3, ptrAt (pb b) 0), (9, int t.length), (10, int x.1)])
    (fun x wr => x.1 ≤ t.length ∧ x.2.2 ++ encL (t.drop x.1) = encL t ∧ x.2.2.length ≤ 3 * x.1 ∧ Bld TB TY wr b x.2.1 x.2.2 ∧ Frm w wr ∧ ∀ k ∈ b :: rb x.2.1, w.heap.size ≤ k)
    (fun x => t.length - x.1) (0, none, []) ⟨rfl, rfl, rfl, rfl, trivial⟩ ⟨by omega, by simp, by simp, hB0, hf1.trans hf0, ?_⟩ ?_
  · intro k hk
    simp only [rb, List.mem_singleton] at hk
    subst hk
    exact Nat.le_trans hf1.size hbw
  rintro ⟨i, q, s⟩ wr ρ ⟨hi, he, hsl, hBl, hfr, hq⟩
  dsimp only at hi he hsl hBl hq ⊢
  refine sgo ?_
  (show WC _ _ _ _ _ _ _; first | refine WC_dec rfl (fun hc => ?_) (fun hc => ?_) | refine WC_cond rfl (fun hc => ?_) (fun hc => ?_))
  · have hil : i < t.length := by omega
    have hst := encL_at t i hil
    have h256 := at_lt t i
    have hcd := fun w => coded_ok t i hi (by omega) w
    have fin : ∀ q' w', Bld TB TY w' b q' (s ++ encC (at0 t i) (codedR t i)) → Lm (b :: rb q) wr (b :: rb q') w' →
        (i + 1 ≤ t.length ∧ (s ++ encC (at0 t i) (codedR t i)) ++ encL (t.drop (i + 1)) = encL t ∧ (s ++ encC (at0 t i) (codedR t i)).length ≤ 3 * (i + 1) ∧ Bld TB TY w' b q' (s ++ encC (at0 t i) (codedR t i)) ∧ Frm w w' ∧ ∀ k ∈ b :: rb q', w.heap.size ≤ k) := by
      intro q' w' hB' hl'
      have := encC_len (at0 t i) (codedR t i)
      refine ⟨by omega, ?_, by simp; omega, hB', hfr.step hl'.1 hq, hl'.fresh hfr hq⟩
      rw [← he, hst, List.append_assoc]
    generalize codedR t i = cd at *
    clear hst
    simp only [at0] at fin h256
    refine sgo ?_
    generalize (t[i]?.getD 0).toNat = c at *
    refine wcutn (X := Unit) (fun _ => [(0, str t), (3, ptrAt (pb b) 0), (5, byt c), (9, int t.length), (10, int i), (18, .bool (escB c cd))]) (fun _ w' => Frm wr w') ?_ ?_
    · clear fin
      have fin : ∀ {b1 b2 : Bool}, b1 = b2 → Value.bool b1 = .bool b2 := fun h => h ▸ rfl
      (show WC _ _ _ _ _ _ _; first | refine WC_dec rfl (fun hc => ?_) (fun hc => ?_) | refine WC_cond rfl (fun hc => ?_) (fun hc => ?_))
      · refine sgo ?_
        refine ⟨(), ⟨rfl, rfl, rfl, rfl, rfl, fin ?_, trivial⟩, Frm.refl _⟩
        simp [escB, hc, show c ≤ 32 from by omega]
      · have h1 : ¬ c ≤ 32 := by omega
        refine sgo ?_
        (show WC _ _ _ _ _ _ _; first | refine WC_dec rfl (fun hc => ?_) (fun hc => ?_) | refine WC_cond rfl (fun hc => ?_) (fun hc => ?_))
        · refine sgo ?_
          refine ⟨(), ⟨rfl, rfl, rfl, rfl, rfl, fin ?_, trivial⟩, Frm.refl _⟩
          simp [escB, hc, show 127 ≤ c from by omega]
        · have h2 : ¬ 127 ≤ c := by omega
          refine sgo ?_
          refine wlpure (indexByte_ok badB c _) fun w3 hf3 => ?_
          have hm := indexByte_mem badB (UInt8.ofNat c)
          refine sgo ?_
          (show WC _ _ _ _ _ _ _; first | refine WC_dec rfl (fun hc => ?_) (fun hc => ?_) | refine WC_cond rfl (fun hc => ?_) (fun hc => ?_))
          · refine sgo ?_
            refine ⟨(), ⟨rfl, rfl, rfl, rfl, rfl, fin ?_, trivial⟩, hf3⟩
            simp [escB, hc, hm.1 hc]
          · have h3 : ¬ UInt8.ofNat c ∈ badB := fun h => hc (hm.2 h)
            refine sgo ?_
            refine wlcallgp (vals := [str t, int i]) (fun _ => hcd _) fun w4 hf4 => ?_
            refine sgo ?_
            refine ⟨(), ⟨rfl, rfl, rfl, rfl, rfl, fin ?_, trivial⟩, hf3.trans hf4⟩
            rw [pkb_and, show decide ((c : Int) = 37) = decide (c = 37) from decide_eq_decide.2 (by omega)]
            simp [escB, h1, h2, h3]
    · rintro ⟨⟩ w2 ρ2 hf2
      have hB2 := hBl.frm hf2
      refine sgo ?_
      (show WC _ _ _ _ _ _ _; first | refine WC_dec rfl (fun hc => ?_) (fun hc => ?_) | refine WC_cond rfl (fun hc => ?_) (fun hc => ?_))
      · rw [encC, if_pos hc] at fin
        refine sgo ?_
        refine wlcall (writeByte_ok b q s 37 _ hB2 (by omega)) ?_
        rintro v w3 ⟨rfl, q3, hB3, hl3⟩
        refine sgo ?_
        refine wl ?_ (y_sindexN (l := digs) (i := c / 16) rfl (congrArg (Value.int .u8) (sh4 c)) (by simp only [digs, List.length_cons, List.length_nil]; omega))
        refine sgo ?_
        refine wlcall (writeByte_ok b q3 _ (digs[c / 16]?.getD 0) _ hB3 (by simp; omega)) ?_
        rintro v w4 ⟨rfl, q4, hB4, hl4⟩
        refine sgo ?_
        refine wl ?_ (y_sindexN (l := digs) (i := c % 16) rfl (congrArg (Value.int .u8) (an15 c h256)) (by simp only [digs, List.length_cons, List.length_nil]; omega))
        refine sgo ?_
        refine wlcall (writeByte_ok b q4 _ (digs[c % 16]?.getD 0) _ hB4 (by simp; omega)) ?_
        rintro v w5 ⟨rfl, q5, hB5, hl5⟩
        refine sgo ?_
        exact ⟨(i + 1, q5, s ++ pct c), ⟨rfl, rfl, rfl, rfl, trivial⟩, fin q5 w5 (by simpa [pct] using hB5) (lm_frm hf2 ((hl3.trans hl4).trans hl5)), by dsimp only; omega⟩
      · rw [encC, if_neg (by simp [hc])] at fin
        refine sgo ?_
        have e : byt c = byt (UInt8.ofNat c).toNat := by rw [UInt8.toNat_ofNat_of_lt' (by simpa using h256)]
        rw [e]
        refine wlcall (writeByte_ok b q _ (UInt8.ofNat c) _ hB2 (by omega)) ?_
        rintro v w3 ⟨rfl, q3, hB3, hl3⟩
        refine sgo ?_
        exact ⟨(i + 1, q3, s ++ [UInt8.ofNat c]), ⟨rfl, rfl, rfl, rfl, trivial⟩, fin q3 w3 hB3 (lm_frm hf2 hl3), by dsimp only; omega⟩
  · obtain rfl : i = t.length := by omega
    have he' : s = encL t := by simpa [encL] using he
    subst he'
    refine sgo ?_
    refine wlcall (string_ok w.heap.size b q _ _ hBl hq hfr.size) ?_
    rintro v w5 ⟨rfl, hb5⟩
    refine sgo ?_
    (first | refine fp1 (.inl rfl) rfl rfl ?_ | refine fp2 (.inl rfl) rfl rfl rfl ?_ | refine fp3 (.inl rfl) rfl rfl rfl rfl ?_ | refine fp0 (.inr rfl) rfl ?_ | refine fp0 (.inl rfl) rfl ?_ | refine fp1 (.inr rfl) rfl rfl ?_)
    refine ⟨rfl, ?_⟩
    exact Below.trans hfr hb5
end Go.Proofs.Ytffaoehhhdcjjaa
