/-
  Texts mended: what that is; package sieveref01's Mend, walked.
-/
import Derived.Test.YtffaoehhhdcjjaaSvDec
import Derived.Test.YtffaoehhhdcjjaaSvBs
set_option linter.unusedSimpArgs false
set_option linter.unusedVariables false
set_option linter.unnecessarySimpa false
namespace Go.Proofs.Ytffaoehhhdcjjaa
open Go Go.Sv Go.RowKit

/-- a rune that is a character -/
def Good (r : Nat) : Prop := r < 1114112 ∧ ¬ (55296 ≤ r ∧ r ≤ 57343)
def runesN (l : List UInt8) : List Nat := (piecesR l).map fun x => x.r.toNat
/-- a text mended -/
def mendR (l : List UInt8) : List UInt8 := (runesN l).flatMap encR
theorem pieceR_good (l : List UInt8) (h0 : 0 < l.length) : ∃ r : Nat, (pieceR l).1 = (r : Int) ∧ Good r := by
  cases hr : (pieceR l).2.2 with
  | true =>
    obtain ⟨r, h1, h2, h3, _⟩ := enc_right l h0 (right_of l hr)
    exact ⟨r, h1, h2, h3⟩
  | false =>
    refine ⟨65533, ?_, by decide, by decide⟩
    have : (goodR l).2 = false := hr
    simp [pieceR, this]
theorem piecesF_good : ∀ (f a : Nat) (l : List UInt8), ∀ x ∈ piecesF f a l, ∃ r : Nat, x.r = (r : Int) ∧ Good r
  | 0, _, _ => by simp [piecesF]
  | f + 1, a, l => by
    simp only [piecesF]
    split
    · simp
    · rename_i hne
      intro x hx
      rcases List.mem_cons.1 hx with rfl | hx
      · exact pieceR_good l (List.length_pos_iff.2 hne)
      · exact piecesF_good f _ _ x hx
theorem pieces_r (l : List UInt8) : (piecesR l).map (fun x => i32 x.r) = (runesN l).map fun n : Nat => i32 n := by
  unfold runesN
  rw [List.map_map]
  refine List.map_congr_left fun x hx => ?_
  obtain ⟨r, h, _⟩ := piecesF_good _ _ _ x hx
  simp [h]
theorem runesN_good (l : List UInt8) : ∀ r ∈ runesN l, Good r := by
  intro r hr
  unfold runesN at hr
  obtain ⟨x, hx, rfl⟩ := List.mem_map.1 hr
  obtain ⟨r, h, hg⟩ := piecesF_good _ _ _ x hx
  rw [h]; exact hg
theorem encN_len (r : Nat) : 1 ≤ (encN r).length ∧ (encN r).length ≤ 4 := by
  unfold encN
  repeat' split
  all_goals simp
theorem encR_len4 (r : Nat) : 1 ≤ (encR r).length ∧ (encR r).length ≤ 4 := by rw [encR_len]; exact encN_len r
theorem encR_flat (rs : List Nat) : (rs.flatMap encR).length ≤ 4 * rs.length := by
  induction rs with
  | nil => simp
  | cons r rs ih => have := encR_len4 r; simp only [List.flatMap_cons, List.length_append, List.length_cons]; omega
theorem piecesF_count : ∀ (f a : Nat) (l : List UInt8), (piecesF f a l).length ≤ l.length := piecesF_len
theorem runesN_len (l : List UInt8) : (runesN l).length ≤ l.length := by
  unfold runesN
  rw [List.length_map]; exact piecesF_len _ _ _
theorem mendR_len (l : List UInt8) : (mendR l).length ≤ 4 * l.length := by
  have := encR_flat (runesN l)
  have := runesN_len l
  unfold mendR; omega
/-- pieces one by one -/
theorem runesN_nil : runesN [] = [] := rfl
theorem piecesF_r : ∀ (f f' a a' : Nat) (l : List UInt8), l.length ≤ f → l.length ≤ f' → (piecesF f a l).map (fun x => x.r.toNat) = (piecesF f' a' l).map fun x => x.r.toNat
  | 0, f', a, a', l, h, _ => by
    have : l = [] := List.eq_nil_of_length_eq_zero (by omega)
    subst this
    cases f' <;> simp [piecesF]
  | f + 1, 0, a, a', l, _, h => by
    have : l = [] := List.eq_nil_of_length_eq_zero (by omega)
    subst this
    simp [piecesF]
  | f + 1, f' + 1, a, a', l, h, h' => by
    simp only [piecesF]
    split
    · rfl
    · rename_i hne
      have := pieceR_rng l (List.length_pos_iff.2 hne)
      simp only [List.map_cons]
      rw [piecesF_r f f' _ (a' + (pieceR l).2.1) _ (by simp; omega) (by simp; omega)]
theorem runesN_cons (l : List UInt8) (h0 : 0 < l.length) : runesN l = (pieceR l).1.toNat :: runesN (l.drop (pieceR l).2.1) := by
  have hrg := pieceR_rng l h0
  unfold runesN piecesR
  obtain ⟨f, hf⟩ : ∃ f, l.length = f + 1 := ⟨l.length - 1, by omega⟩
  have hne : l ≠ [] := List.length_pos_iff.1 h0
  rw [hf, piecesF, if_neg hne, List.map_cons]
  congr 1
  exact piecesF_r f _ _ 0 _ (by simp; omega) (Nat.le_refl _)
theorem mendR_nil : mendR [] = [] := rfl
theorem mendR_cons (l : List UInt8) (h0 : 0 < l.length) : mendR l = encR (pieceR l).1.toNat ++ mendR (l.drop (pieceR l).2.1) := by
  unfold mendR
  rw [runesN_cons l h0, List.flatMap_cons]
/-- what is right stays -/
theorem mendR_valid : ∀ (n : Nat) (l : List UInt8), l.length ≤ n → validR l = true → mendR l = l
  | 0, l, h, _ => by
    have : l = [] := List.eq_nil_of_length_eq_zero (by omega)
    subst this; rfl
  | n + 1, l, h, hv => by
    rcases Nat.eq_zero_or_pos l.length with h0 | h0
    · have : l = [] := List.eq_nil_of_length_eq_zero h0
      subst this; rfl
    · obtain ⟨hr, hv2⟩ := valid_step l h0 hv
      obtain ⟨r, h1, _, _, h4, _⟩ := enc_right l h0 hr
      have hrg := pieceR_rng l h0
      rw [mendR_cons l h0, mendR_valid n _ (by simp; omega) hv2, h1, Int.toNat_natCast, h4, List.take_append_drop]
theorem mendR_id {l : List UInt8} (hv : validR l = true) : mendR l = l := mendR_valid _ l (Nat.le_refl _) hv

def charR (r : Int) : Bool := decide (0 ≤ r ∧ r ≤ 1114111 ∧ (r < 55296 ∨ 57343 < r))
theorem charR_good {r : Nat} (h : Good r) : charR r = true := decide_eq_true (by unfold Good at h; omega)
theorem refChar_ok (r : Int) (w : World) : PureC Try.prog 71 #[i32 r] w (.bool (charR r)) := by
  refine enter (l := [i32 r]) Try.func71 rfl Try.ntmps71 (by kernel_rfl) rfl ?_
  refine sgo ?_
  (first | refine fp1 (.inl rfl) rfl rfl ?_ | refine fp2 (.inl rfl) rfl rfl rfl ?_ | refine fp3 (.inl rfl) rfl rfl rfl rfl ?_ | refine fp0 (.inr rfl) rfl ?_ | refine fp0 (.inl rfl) rfl ?_ | refine fp1 (.inr rfl) rfl rfl ?_); refine ⟨?_, by (first | exact Frm.refl _ | assumption | (refine Frm.trans ?_ (by assumption); first | exact Frm.refl _ | assumption))⟩; (try simp only [realB, rv_true, Nat.reduceBEq, cond_true, cond_false, entG, real_lif, updGL])
  refine congrArg Value.bool ?_
  unfold charR
  rw [Bool.eq_iff_iff]
  simp only [pkb_or, pkb_and, Bool.or_eq_true, Bool.and_eq_true, decide_eq_true_eq]
  omega
theorem refWidth_ok (r : Nat) (hg : Good r) (w : World) : PureC Try.prog 72 #[i32 r] w (int (encN r).length) := by
  have hch := charR_good hg
  have hgg := hg
  unfold Good at hgg
  refine enter (l := [i32 r]) Try.func72 rfl Try.ntmps72 (by kernel_rfl) rfl ?_
  refine sgo ?_
  have hc0 := refChar_ok r w
  rw [hch] at hc0
  refine wlpure hc0 fun w1 hf => ?_
  refine sgo ?_
  (show WC _ _ _ _ _ _ _; first | refine WC_dec rfl (fun hc => ?_) (fun hc => ?_) | refine WC_cond rfl (fun hc => ?_) (fun hc => ?_))
  · have e : encN r = [r] := if_pos (by omega)
    refine sgo ?_
    (first | refine fp1 (.inl rfl) rfl rfl ?_ | refine fp2 (.inl rfl) rfl rfl rfl ?_ | refine fp3 (.inl rfl) rfl rfl rfl rfl ?_ | refine fp0 (.inr rfl) rfl ?_ | refine fp0 (.inl rfl) rfl ?_ | refine fp1 (.inr rfl) rfl rfl ?_); refine ⟨?_, by (first | exact Frm.refl _ | assumption | (refine Frm.trans ?_ (by assumption); first | exact Frm.refl _ | assumption))⟩; (try simp only [realB, rv_true, Nat.reduceBEq, cond_true, cond_false, entG, real_lif, updGL])
    rw [e]; rfl
  have n1 := hc; clear hc
  refine sgo ?_
  (show WC _ _ _ _ _ _ _; first | refine WC_dec rfl (fun hc => ?_) (fun hc => ?_) | refine WC_cond rfl (fun hc => ?_) (fun hc => ?_))
  · have e : encN r = [192 + r / 64, 128 + r % 64] := by rw [encN, if_neg (by omega), if_pos (by omega)]
    refine sgo ?_
    (first | refine fp1 (.inl rfl) rfl rfl ?_ | refine fp2 (.inl rfl) rfl rfl rfl ?_ | refine fp3 (.inl rfl) rfl rfl rfl rfl ?_ | refine fp0 (.inr rfl) rfl ?_ | refine fp0 (.inl rfl) rfl ?_ | refine fp1 (.inr rfl) rfl rfl ?_); refine ⟨?_, by (first | exact Frm.refl _ | assumption | (refine Frm.trans ?_ (by assumption); first | exact Frm.refl _ | assumption))⟩; (try simp only [realB, rv_true, Nat.reduceBEq, cond_true, cond_false, entG, real_lif, updGL])
    rw [e]; rfl
  have n2 := hc; clear hc
  refine sgo ?_
  (show WC _ _ _ _ _ _ _; first | refine WC_dec rfl (fun hc => ?_) (fun hc => ?_) | refine WC_cond rfl (fun hc => ?_) (fun hc => ?_))
  · have e : encN r = [224 + r / 4096, 128 + r / 64 % 64, 128 + r % 64] := by rw [encN, if_neg (by omega), if_neg (by omega), if_pos (by omega)]
    refine sgo ?_
    (first | refine fp1 (.inl rfl) rfl rfl ?_ | refine fp2 (.inl rfl) rfl rfl rfl ?_ | refine fp3 (.inl rfl) rfl rfl rfl rfl ?_ | refine fp0 (.inr rfl) rfl ?_ | refine fp0 (.inl rfl) rfl ?_ | refine fp1 (.inr rfl) rfl rfl ?_); refine ⟨?_, by (first | exact Frm.refl _ | assumption | (refine Frm.trans ?_ (by assumption); first | exact Frm.refl _ | assumption))⟩; (try simp only [realB, rv_true, Nat.reduceBEq, cond_true, cond_false, entG, real_lif, updGL])
    rw [e]; rfl
  have n3 := hc; clear hc
  have e : encN r = [240 + r / 262144, 128 + r / 4096 % 64, 128 + r / 64 % 64, 128 + r % 64] := by rw [encN, if_neg (by omega), if_neg (by omega), if_neg (by omega)]
  refine sgo ?_
  (first | refine fp1 (.inl rfl) rfl rfl ?_ | refine fp2 (.inl rfl) rfl rfl rfl ?_ | refine fp3 (.inl rfl) rfl rfl rfl rfl ?_ | refine fp0 (.inr rfl) rfl ?_ | refine fp0 (.inl rfl) rfl ?_ | refine fp1 (.inr rfl) rfl rfl ?_); refine ⟨?_, by (first | exact Frm.refl _ | assumption | (refine Frm.trans ?_ (by assumption); first | exact Frm.refl _ | assumption))⟩; (try simp only [realB, rv_true, Nat.reduceBEq, cond_true, cond_false, entG, real_lif, updGL])
  rw [e]; rfl

/-- a new slice of bytes -/
def NewB (w : World) (s : List UInt8) (v : Value) (w' : World) : Prop := Frm w w' ∧ ∃ q cc, v = .slice q s.length cc ∧ Row w' 1 q s.length cc (bs s) ∧ ∀ x ∈ rb q, w.heap.size ≤ x
theorem newB_own {w w1 w2 : World} {b n : Nat} {s : List UInt8} {L : List Value} (hf : Frm w w1) (hb : w1.heap.size ≤ b) (ho : Own w2 b L) (hf2 : Frm w1 w2) (hn : n = s.length) (hn2 : n ≤ 4) (hL : L = bs s) : NewB w s (.slice (pb b) n n) w2 := by
  subst hn hL
  refine ⟨hf.trans hf2, pb b, s.length, rfl, Row.of_own ho (by simp) (by omega), ?_⟩
  intro x hx
  simp only [rb, List.mem_singleton] at hx
  subst hx
  exact Nat.le_trans hf.size hb
set_option maxHeartbeats 2000000 in
theorem refBytesOf_ok (r : Nat) (hg : Good r) (w : World) : CallsR Try.prog 66 #[i32 r] w (NewB w (encR r)) := by
  have hch := charR_good hg
  have hbe := bs_encR r hg.1
  have hel := encR_len r
  have hgg := hg
  unfold Good at hgg
  refine enter (l := [i32 r]) Try.func66 rfl Try.ntmps66 (by kernel_rfl) rfl ?_
  refine sgo ?_
  have hc0 := refChar_ok r w
  rw [hch] at hc0
  refine wlpure hc0 fun w1 hf => ?_
  refine sgo ?_
  have hw := fun w => refWidth_ok r hg w
  by_cases n1 : r < 128
  · have e : encN r = [r] := if_pos (by omega)
    rw [e] at hbe hel hw
    replace hw : ∀ w, PureC Try.prog 72 #[i32 r] w (int 1) := hw
    refine wlpure (hw _) fun w2 hf2 => ?_
    replace hf := hf.trans hf2
    refine sgo ?_
    refine wlb1_int fun b w3 hb ho hf3 => ?_
    refine sgo ?_
    (first | refine fp1 (.inl rfl) rfl rfl ?_ | refine fp2 (.inl rfl) rfl rfl rfl ?_ | refine fp3 (.inl rfl) rfl rfl rfl rfl ?_ | refine fp0 (.inr rfl) rfl ?_ | refine fp0 (.inl rfl) rfl ?_ | refine fp1 (.inr rfl) rfl rfl ?_)
    refine newB_own hf hb ho hf3 hel.symm (by decide) (by rw [hbe]; rfl)
  by_cases n2 : r < 2048
  · have e : encN r = [192 + r / 64, 128 + r % 64] := by rw [encN, if_neg (by omega), if_pos (by omega)]
    rw [e] at hbe hel hw
    replace hw : ∀ w, PureC Try.prog 72 #[i32 r] w (int 2) := hw
    refine wlpure (hw _) fun w2 hf2 => ?_
    replace hf := hf.trans hf2
    refine sgo ?_
    refine wlbs2 fun b w3 hb ho hf3 => ?_
    refine sgo ?_
    (first | refine fp1 (.inl rfl) rfl rfl ?_ | refine fp2 (.inl rfl) rfl rfl rfl ?_ | refine fp3 (.inl rfl) rfl rfl rfl rfl ?_ | refine fp0 (.inr rfl) rfl ?_ | refine fp0 (.inl rfl) rfl ?_ | refine fp1 (.inr rfl) rfl rfl ?_)
    refine newB_own hf hb ho hf3 hel.symm (by decide) (by rw [hbe]; rfl)
  by_cases n3 : r < 65536
  · have e : encN r = [224 + r / 4096, 128 + r / 64 % 64, 128 + r % 64] := by rw [encN, if_neg (by omega), if_neg (by omega), if_pos (by omega)]
    rw [e] at hbe hel hw
    replace hw : ∀ w, PureC Try.prog 72 #[i32 r] w (int 3) := hw
    refine wlpure (hw _) fun w2 hf2 => ?_
    replace hf := hf.trans hf2
    refine sgo ?_
    refine wlbs3 fun b w3 hb ho hf3 => ?_
    refine sgo ?_
    (first | refine fp1 (.inl rfl) rfl rfl ?_ | refine fp2 (.inl rfl) rfl rfl rfl ?_ | refine fp3 (.inl rfl) rfl rfl rfl rfl ?_ | refine fp0 (.inr rfl) rfl ?_ | refine fp0 (.inl rfl) rfl ?_ | refine fp1 (.inr rfl) rfl rfl ?_)
    refine newB_own hf hb ho hf3 hel.symm (by decide) (by rw [hbe]; rfl)
  · have e : encN r = [240 + r / 262144, 128 + r / 4096 % 64, 128 + r / 64 % 64, 128 + r % 64] := by rw [encN, if_neg (by omega), if_neg (by omega), if_neg (by omega)]
    rw [e] at hbe hel hw
    replace hw : ∀ w, PureC Try.prog 72 #[i32 r] w (int 4) := hw
    refine wlpure (hw _) fun w2 hf2 => ?_
    replace hf := hf.trans hf2
    refine sgo ?_
    refine wlbs4 fun b w3 hb ho hf3 => ?_
    refine sgo ?_
    (first | refine fp1 (.inl rfl) rfl rfl ?_ | refine fp2 (.inl rfl) rfl rfl rfl ?_ | refine fp3 (.inl rfl) rfl rfl rfl rfl ?_ | refine fp0 (.inr rfl) rfl ?_ | refine fp0 (.inl rfl) rfl ?_ | refine fp1 (.inr rfl) rfl rfl ?_)
    refine newB_own hf hb ho hf3 hel.symm (by decide) (by rw [hbe]; rfl)
end Go.Proofs.Ytffaoehhhdcjjaa
