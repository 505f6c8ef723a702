/-
  Our texts SvCut, SvVaH, joined.
-/
import Derived.Test.YtjpnhaaneaikbaaDoorMg6
/-
  Texts parted at an ASCII byte: their runes.
-/
set_option linter.unusedSimpArgs false
set_option linter.unusedVariables false
set_option linter.unnecessarySimpa false
namespace Go.Proofs.YtjpnhaaneaikbaaDoor
open Go Go.Sv Go.RowKit

theorem at_cut0 (a b : List UInt8) (c : UInt8) : at0 (a ++ c :: b) a.length = c.toNat := by rw [at_app_r (Nat.le_refl _)]; simp [at0]
theorem second_low (c d : Nat) (h : d < 128) : secondR c d = false := by
  unfold secondR
  repeat' split
  all_goals (simp only [Bool.and_eq_false_iff, decide_eq_false_iff_not]; left; omega)
theorem goodF_cut (a b : List UInt8) (c : UInt8) (hc : c.toNat < 128) (n : Nat) : ∀ (f k : Nat), 1 ≤ k → k ≤ a.length → goodF (a ++ c :: b) n f k = goodF a n f k
  | 0, k, _, _ => rfl
  | f + 1, k, h1, h2 => by
    simp only [goodF]
    by_cases hkn : k < n
    · by_cases hka : k < a.length
      · have hl : k < (a ++ c :: b).length := by simp; omega
        rw [if_pos (show k < n ∧ k < (a ++ c :: b).length from ⟨hkn, hl⟩), if_pos (show k < n ∧ k < a.length from ⟨hkn, hka⟩), at_app_l hka, at_app_l (show 0 < a.length by omega)]
        by_cases hk1 : k = 1
        · subst hk1
          rw [at_app_l hka, goodF_cut a b c hc n f 2 (by omega) (by omega)]
        · by_cases h1' : 1 < a.length
          · rw [at_app_l h1', goodF_cut a b c hc n f (k + 1) (by omega) (by omega)]
          · omega
      · obtain rfl : k = a.length := by omega
        have hl : a.length < (a ++ c :: b).length := by simp
        rw [if_pos (show a.length < n ∧ a.length < (a ++ c :: b).length from ⟨hkn, hl⟩), if_neg (by omega : ¬ (a.length < n ∧ a.length < a.length)), at_cut0, if_pos]
        by_cases hk1 : a.length = 1
        · left
          refine ⟨hk1, ?_⟩
          have := at_cut0 a b c
          rw [hk1] at this
          rw [this, second_low _ _ hc]
        · right
          exact ⟨by omega, .inl hc⟩
    · rw [if_neg (by omega), if_neg (by omega)]
theorem goodR_cut (a b : List UInt8) (c : UInt8) (hc : c.toNat < 128) (h0 : 0 < a.length) : goodR (a ++ c :: b) = goodR a := by
  unfold goodR
  rw [at_app_l h0, goodF_cut a b c hc _ 4 1 (by omega) h0]
theorem accR_cut (a b : List UInt8) : ∀ (f i r : Nat), i + f ≤ a.length → accR (a ++ b) f i r = accR a f i r
  | 0, i, r, _ => rfl
  | f + 1, i, r, h => by
    simp only [accR]
    rw [at_app_l (by omega), accR_cut a b f (i + 1) _ (by omega)]
theorem pieceR_cut (a b : List UInt8) (c : UInt8) (hc : c.toNat < 128) (h0 : 0 < a.length) : pieceR (a ++ c :: b) = pieceR a := by
  have hr := goodR_rng a h0
  unfold pieceR
  rw [goodR_cut a b c hc h0, at_app_l h0]
  cases hg : (goodR a).2 with
  | false => rfl
  | true =>
    have h2 := hr.2 hg
    simp only [if_true]
    rw [accR_cut a (c :: b) _ _ _ (by omega)]
theorem pieceR_low (c : UInt8) (b : List UInt8) (hc : c.toNat < 128) : pieceR (c :: b) = ((c.toNat : Int), 1, true) := by
  have h : (c :: b) = encR c.toNat ++ b := by
    have : encR c.toNat = [c] := by
      unfold encR encN
      rw [if_pos (by omega)]
      simp
    rw [this]; rfl
  rw [h, piece_enc c.toNat ⟨by omega, by omega⟩ b]
  have : (encR c.toNat).length = 1 := by
    rw [encR_len]
    unfold encN
    rw [if_pos (by omega)]; rfl
  rw [this]
/-- a text around an ASCII byte -/
theorem runes_cut (c : UInt8) (hc : c.toNat < 128) (b : List UInt8) : ∀ (n : Nat) (a : List UInt8), a.length ≤ n → runesN (a ++ c :: b) = runesN a ++ c.toNat :: runesN b
  | n, [], _ => by
    rw [List.nil_append, runesN_cons _ (by simp), pieceR_low c b hc]
    rfl
  | 0, x :: a, h => by simp at h
  | n + 1, x :: a, h => by
    have h0 : 0 < (x :: a).length := by simp
    have hr := pieceR_rng (x :: a) h0
    rw [runesN_cons ((x :: a) ++ c :: b) (by simp), pieceR_cut (x :: a) b c hc h0, runesN_cons (x :: a) h0, List.drop_append_of_le_length hr.2,
      runes_cut c hc b n _ (by simp only [List.length_drop]; simp only [List.length_cons] at h ⊢; omega)]
    rfl
theorem runes_at (c : UInt8) (hc : c.toNat < 128) (a b : List UInt8) : runesN (a ++ c :: b) = runesN a ++ c.toNat :: runesN b := runes_cut c hc b _ a (Nat.le_refl _)
/-- ASCII runes -/
theorem runes_ascii : ∀ (l : List UInt8), (∀ c ∈ l, c.toNat < 128) → runesN l = l.map UInt8.toNat
  | [], _ => rfl
  | c :: l, h => by
    have := runes_at c (h c (by simp)) [] l
    rw [List.nil_append] at this
    rw [this, runes_ascii l fun x hx => h x (List.mem_cons_of_mem _ hx)]
    rfl
end Go.Proofs.YtjpnhaaneaikbaaDoor

/-
  The law ValueYears.
-/
set_option linter.unusedSimpArgs false
set_option linter.unusedVariables false
set_option linter.unnecessarySimpa false
namespace Go.Proofs.YtjpnhaaneaikbaaDoor
open Go Go.Sv Go.RowKit

/-! ## Plain texts are clean -/
theorem encR_low {r : Nat} (h : r < 128) : encR r = [UInt8.ofNat r] := by
  unfold encR encN
  rw [if_pos (by omega)]
  rfl
theorem clean_plain (l : List UInt8) (h : ∀ c ∈ l, 32 ≤ c.toNat ∧ c.toNat < 127) : cleanR l = l := by
  unfold cleanR
  rw [runes_ascii l fun c hc => by have := h c hc; omega]
  induction l with
  | nil => rfl
  | cons c l ih =>
    have hc := h c (by simp)
    have hp : plainR c.toNat = c.toNat := by
      unfold plainR
      rw [if_neg (by omega), if_neg (by omega), if_neg (by omega)]
    rw [List.map_cons, List.map_cons, List.flatMap_cons, ih fun x hx => h x (List.mem_cons_of_mem _ hx), hp, encR_low (by omega), UInt8.ofNat_toNat]
    rfl
/-! ## Numbers in digits -/
def dg (x : Nat) : UInt8 := UInt8.ofNat (48 + x % 10)
theorem dg_nat (x : Nat) : (dg x).toNat = 48 + x % 10 := UInt8.toNat_ofNat_of_lt' (by show 48 + x % 10 < 256; omega)
theorem numG_dg (x n : Nat) (l : List UInt8) : numG (dg x :: l) n = numG l (10 * n + x % 10) := by
  have hd : digitR (dg x).toNat = true := by
    rw [dg_nat]
    simp only [digitR, Bool.and_eq_true, decide_eq_true_eq]
    omega
  rw [numG, if_pos hd, dg_nat]
  congr 1
  omega
def fourR (n : Nat) : List UInt8 := [dg (n / 1000), dg (n / 100), dg (n / 10), dg n]
def dayT (y m d : Nat) : List UInt8 := fourR y ++ [45] ++ (fourR m).drop 2 ++ [45] ++ (fourR d).drop 2
theorem num_four {y : Nat} (h : y ≤ 9999) : numR (fourR y) = some y := by
  unfold numR fourR
  rw [if_neg (by simp), numG_dg, numG_dg, numG_dg, numG_dg, numG]
  congr 1
  omega
theorem num_two {y : Nat} (h : y ≤ 99) : numR ((fourR y).drop 2) = some y := by
  have e : (fourR y).drop 2 = [dg (y / 10), dg y] := rfl
  rw [e]
  unfold numR
  rw [if_neg (by simp), numG_dg, numG_dg, numG]
  congr 1
  omega
theorem day_date {y m d : Nat} (hy : 1 ≤ y ∧ y ≤ 9999) (hm : 1 ≤ m ∧ m ≤ 12) (hd : 1 ≤ d ∧ d ≤ 99) : dateR (cleanR (dayT y m d)) = dateV (decide (d ≤ daysR y m)) y m d := by
  have hcl : cleanR (dayT y m d) = dayT y m d := by
    refine clean_plain _ fun c hc => ?_
    have hdg : ∀ x, 32 ≤ (dg x).toNat ∧ (dg x).toNat < 127 := fun x => by rw [dg_nat]; omega
    have e : dayT y m d = [dg (y / 1000), dg (y / 100), dg (y / 10), dg y, 45, dg (m / 10), dg m, 45, dg (d / 10), dg d] := rfl
    rw [e] at hc
    simp only [List.mem_cons, List.not_mem_nil, or_false] at hc
    rcases hc with rfl | rfl | rfl | rfl | rfl | rfl | rfl | rfl | rfl | rfl <;> first | exact hdg _ | decide
  rw [hcl]
  unfold dateR
  have e1 : (dayT y m d).take 4 = fourR y := rfl
  have e2 : ((dayT y m d).drop 5).take 2 = (fourR m).drop 2 := rfl
  have e3 : (dayT y m d).drop 8 = (fourR d).drop 2 := rfl
  rw [e1, e2, e3, num_four hy.2, num_two (by omega), num_two hd.2]
  have e4 : okDate (dayT y m d) (numP (some y)) (numP (some m)) (numP (some d)) = decide (d ≤ daysR y m) := by
    unfold okDate
    have h1 : decide ((dayT y m d).length = 10 ∧ at0 (dayT y m d) 4 = 45 ∧ at0 (dayT y m d) 7 = 45) = true := decide_eq_true ⟨rfl, rfl, rfl⟩
    rw [h1]
    simp only [numP, Bool.true_and]
    by_cases hle : d ≤ daysR y m
    · simp [hle]; omega
    · simp [hle]
  rw [e4]
  rfl
theorem days_rng (y m : Nat) : (m = 2 → daysR y m = 28 ∨ daysR y m = 29) ∧ (m ≠ 2 → daysR y m = 30 ∨ daysR y m = 31) := by
  unfold daysR
  repeat' split
  all_goals omega
def sumD (y : Nat) : Nat → Nat
  | 0 => 0
  | k + 1 => sumD y k + daysR y (k + 1)
theorem sumD_le (y : Nat) : ∀ k, sumD y k ≤ 31 * k
  | 0 => Nat.le_refl _
  | k + 1 => by
    have h1 := sumD_le y k
    have h2 := days_rng y (k + 1)
    have : daysR y (k + 1) ≤ 31 := by
      by_cases h : k + 1 = 2
      · have := h2.1 h; omega
      · have := h2.2 h; omega
    rw [sumD]; omega
theorem sum_year (y : Nat) : sumD y 12 = if leapR y = true then 366 else 365 := by
  simp only [sumD, daysR]
  cases leapR y <;> rfl

set_option maxHeartbeats 1000000 in
theorem four_ok (n : Nat) (hn : n ≤ 9999) (w : World) : PureC Tryd.prog 18 #[int n] w (str (fourR n)) := by
  have hwr : ∀ x : Nat, x < 10 → IntKind.u8.wrap (48 + (x : Int)) = ((48 + x : Nat) : Int) := fun x hx => by
    rw [wrap_in]
    · simp
    · simp [IntKind.min, IntKind.max, IntKind.signed, IntKind.bits]; omega
  have hw1 : IntKind.u8.wrap (48 + (n : Int) / 1000 % 10) = ((48 + n / 1000 % 10 : Nat) : Int) := hwr (n / 1000 % 10) (by omega)
  have hw2 : IntKind.u8.wrap (48 + (n : Int) / 100 % 10) = ((48 + n / 100 % 10 : Nat) : Int) := hwr (n / 100 % 10) (by omega)
  have hw3 : IntKind.u8.wrap (48 + (n : Int) / 10 % 10) = ((48 + n / 10 % 10 : Nat) : Int) := hwr (n / 10 % 10) (by omega)
  have hw4 : IntKind.u8.wrap (48 + (n : Int) % 10) = ((48 + n % 10 : Nat) : Int) := hwr (n % 10) (by omega)
  have hbs : bs (fourR n) = [byt (48 + n / 1000 % 10 : Nat), byt (48 + n / 100 % 10 : Nat), byt (48 + n / 10 % 10 : Nat), byt (48 + n % 10 : Nat)] := by
    simp only [bs, fourR, List.map_cons, List.map_nil, dg_nat]
  refine enter (l := [int n]) Tryd.func18 rfl Tryd.ntmps18 (by kernel_rfl) rfl ?_
  refine sgo ?_
  (try rw [hw1, hw2, hw3, hw4])
  refine wlbsn (vs := [byt (48 + n / 1000 % 10 : Nat), byt (48 + n / 100 % 10 : Nat), byt (48 + n / 10 % 10 : Nat), byt (48 + n % 10 : Nat)]) 4 (fun b w1 hb ho hf => ?_) (h1 := by simp [Value.cells])
  rw [← hbs] at ho
  refine sgo ?_
  refine wl ?_ (y_b2s (s := fourR n) rfl ho.sg)
  refine sgo ?_
  (first | refine fp1 (.inl rfl) rfl rfl ?_ | refine fp2 (.inl rfl) rfl rfl rfl ?_ | refine fp3 (.inl rfl) rfl rfl rfl rfl ?_ | refine fp0 (.inr rfl) rfl ?_ | refine fp0 (.inl rfl) rfl ?_ | refine fp1 (.inr rfl) rfl rfl ?_); refine ⟨?_, by (first | exact Frm.refl _ | assumption | exact Go.Sv.Sep.frm (by assumption) | (refine Frm.trans ?_ (by assumption); first | exact Frm.refl _ | assumption))⟩; (try simp only [realB, rv_true, Nat.reduceBEq, cond_true, cond_false, entG, real_lif, updGL])
  all_goals rfl
set_option maxHeartbeats 4000000 in
theorem valueYears_ok (year : Int) (h0 : IntKind.min .u64 ≤ year) (h1 : year ≤ IntKind.max .u64) (w : World) : PureC Tryd.prog 6 #[.int .u64 year] w (.bool true) := by
  have h00 : 0 ≤ year := h0
  have hym := Int.emod_nonneg year (show (9999 : Int) ≠ 0 by decide)
  have hyl := Int.emod_lt_of_pos year (show (0 : Int) < 9999 by decide)
  have hy0 : ∃ y : Nat, year % 9999 + 1 = (y : Int) ∧ 1 ≤ y ∧ y ≤ 9999 := ⟨(year % 9999 + 1).toNat, by omega, by omega, by omega⟩
  obtain ⟨y, hy, hy1, hy2⟩ := hy0
  refine enter (l := [.int .u64 year]) Tryd.func6 rfl Tryd.ntmps6 (by kernel_rfl) rfl ?_
  have hcv : IntKind.i64.wrap (year % 9999) = year % 9999 := wrap_in (by simp [IntKind.min, IntKind.max, IntKind.signed, IntKind.bits]; omega)
  refine sgo ?_
  rw [hcv]
  refine sgo ?_
  rw [hy]
  refine wcutj (X := Unit) (fun _ => [(3, int y), (4, int (sumD y 12))]) (fun _ w' => Frm w w') ?_ ?_
  · refine wcloop (X := Nat) (fun m => [(3, int y), (4, int (sumD y (m - 1))), (5, int m)])
      (fun m w' => 1 ≤ m ∧ m ≤ 13 ∧ Frm w w') (fun m => 13 - m) 1 ⟨rfl, rfl, rfl, trivial⟩ ⟨Nat.le_refl _, by decide, Frm.refl w⟩ ?_
    rintro m wr ρ ⟨hm1, hm13, hf⟩
    have hsl := sumD_le y (m - 1)
    refine sgo ?_
    (show WC _ _ _ _ _ _ _; first | refine WC_dec rfl (fun hc => ?_) (fun hc => ?_) | refine WC_cond rfl (fun hc => ?_) (fun hc => ?_))
    · have hm12 : m ≤ 12 := by omega
      have hrg := days_rng y m
      have hsuc : sumD y (m - 1) + daysR y m = sumD y m := by
        obtain ⟨k, rfl⟩ : ∃ k, m = k + 1 := ⟨m - 1, by omega⟩
        rfl
      have hdt := fun d (hd : 1 ≤ d ∧ d ≤ 99) => day_date ⟨hy1, hy2⟩ ⟨hm1, hm12⟩ hd
      clear hc
      generalize hDD : daysR y m = D at *
      have hD31 : 28 ≤ D ∧ D ≤ 31 := by
        by_cases h : m = 2
        · have := hrg.1 h; omega
        · have := hrg.2 h; omega
      generalize sumD y (m - 1) = S at *
      refine sgo ?_
      refine wcutj (X := Unit) (fun _ => [(3, int y), (4, int S), (5, int m), (6, int D)]) (fun _ w' => Frm w w') ?_ ?_
      · refine wcloop (X := Nat) (fun d => [(3, int y), (4, int S), (5, int m), (6, int (min (d - 1) D : Nat)), (7, int d)])
          (fun d w' => 1 ≤ d ∧ d ≤ 33 ∧ Frm w w') (fun d => 33 - d) 1 ⟨rfl, rfl, rfl, by show int _ = int _; congr 1, rfl, trivial⟩ ⟨Nat.le_refl _, by decide, hf⟩ ?_
        clear hf
        rintro d wr2 ρ2 ⟨hd1, hd33, hf⟩
        have hmin : min (d - 1) D ≤ 31 := by omega
        generalize hmm : min (d - 1) D = N at *
        refine sgo ?_
        (show WC _ _ _ _ _ _ _; first | refine WC_dec rfl (fun hc => ?_) (fun hc => ?_) | refine WC_cond rfl (fun hc => ?_) (fun hc => ?_))
        · have hd32 : d ≤ 32 := by omega
          have hdd := hdt d ⟨hd1, by omega⟩
          have e : fourR y ++ [45] ++ (fourR m).drop 2 ++ [45] ++ (fourR d).drop 2 = dayT y m d := rfl
          have hl1 : (fourR y).length = 4 := rfl
          have hl2 : (fourR m).length = 4 := rfl
          have hl3 : (fourR d).length = 4 := rfl
          have hl4 : (dayT y m d).length = 10 := rfl
          have hq1 := fun w => four_ok y hy2 w
          have hq2 := fun w => four_ok m (by omega) w
          have hq3 := fun w => four_ok d (by omega) w
          have hdate := fun w => date_ok (dayT y m d) (by omega) w
          rw [hdd] at hdate
          clear hc hdd hdt
          generalize dayT y m d = T at *
          generalize fourR y = Fy at *
          generalize fourR m = Fm at *
          generalize fourR d = Fd at *
          refine sgo ?_
          refine wcdraw ?_
          refine qgo ?_
          refine qlcallp (fun w' _ => hq1 w') ?_
          refine qgo ?_
          refine qlcallp (fun w' _ => hq2 w') ?_
          refine qgo ?_
          refine qlcallp (fun w' _ => hq3 w') ?_
          refine qgo ?_
          refine QL_nil ?_
          intro w5 hf5
          replace hf := hf.trans hf5
          refine sgo ?_
          rw [show Int.toNat 2 = 2 from rfl, e]
          refine wlpure (hdate _) fun w6 hf6 => ?_
          replace hf := hf.trans hf6
          clear hf5 hf6
          by_cases hle : d ≤ D
          · rw [decide_eq_true hle]
            have hN : N = d - 1 := by omega
            have hv : dateV true y m d = .tuple #[int y, int m, int d, .bool true] := by unfold dateV; rw [if_pos rfl]
            rw [hv]
            refine sgo ?_
            refine wcno ?_ (ht := by simp [pkb]; omega)
            refine sgo ?_
            refine ⟨d + 1, ⟨rfl, rfl, rfl, ?_, rfl, trivial⟩, ⟨by omega, by omega, hf⟩, by omega⟩
            show Value.int .i64 _ = .int .i64 _
            congr 1
            omega
          · rw [decide_eq_false hle]
            have hN : N = D := by omega
            have hv : dateV false y m d = .tuple #[int (0 : Nat), int (0 : Nat), int (0 : Nat), .bool false] := by unfold dateV; rw [if_neg (by decide)]
            rw [hv]
            refine sgo ?_
            refine wcno ?_ (ht := by simp [pkb])
            refine sgo ?_
            refine ⟨d + 1, ⟨rfl, rfl, rfl, ?_, rfl, trivial⟩, ⟨by omega, by omega, hf⟩, by omega⟩
            show Value.int .i64 _ = .int .i64 _
            congr 1
            omega
        · refine sgo ?_
          exact ⟨(), ⟨rfl, rfl, rfl, by show int _ = int _; congr 1; omega, trivial⟩, hf⟩
      · clear hf
        rintro _ w3 ρ3 hf
        refine sgo ?_
        refine wcno ?_ (ht := by
          by_cases h2 : m = 2
          · have := hrg.1 h2
            subst h2
            rcases this with h | h <;> subst h <;> simp [pkb]
          · have := hrg.2 h2
            rcases this with h | h <;> subst h <;> simp [pkb, h2] <;> omega)
        refine sgo ?_
        refine ⟨m + 1, ⟨rfl, ?_, rfl, trivial⟩, ⟨by omega, by omega, hf⟩, by omega⟩
        rw [Nat.add_sub_cancel, ← hsuc]
        rfl
    · obtain rfl : m = 13 := by omega
      refine sgo ?_
      exact ⟨(), ⟨rfl, rfl, trivial⟩, hf⟩
  · rintro _ w2 ρ hf
    rw [sum_year]
    have hleap : pkb (decide ((y : Int) % 4 = 0)) (pkb (decide ((y : Int) % 100 ≠ 0)) true (decide ((y : Int) % 400 = 0))) false = leapR y := by
      unfold leapR
      rw [Bool.eq_iff_iff]
      simp only [pkb_or, pkb_and, Bool.or_eq_true, Bool.and_eq_true, Bool.not_eq_true', decide_eq_true_eq, decide_eq_false_iff_not]
      omega
    refine sgo ?_
    rw [hleap]
    generalize leapR y = lp at *
    clear hleap
    cases lp with
    | true =>
      refine sgo ?_
      refine wlcallgp (vals := []) (fun _ => lives13_ok _) (fun w5 hf5 => ?_) (ha := fun _ => rfl)
      refine sgo ?_
      replace hf := hf.trans hf5
      clear hf5
      (first | refine fp1 (.inl rfl) rfl rfl ?_ | refine fp2 (.inl rfl) rfl rfl rfl ?_ | refine fp3 (.inl rfl) rfl rfl rfl rfl ?_ | refine fp0 (.inr rfl) rfl ?_ | refine fp0 (.inl rfl) rfl ?_ | refine fp1 (.inr rfl) rfl rfl ?_); refine ⟨?_, by (first | exact Frm.refl _ | assumption | exact Go.Sv.Sep.frm (by assumption) | (refine Frm.trans ?_ (by assumption); first | exact Frm.refl _ | assumption))⟩; (try simp only [realB, rv_true, Nat.reduceBEq, cond_true, cond_false, entG, real_lif, updGL])
      all_goals rfl
    | false =>
      refine sgo ?_
      refine wlcallgp (vals := []) (fun _ => lives13_ok _) (fun w5 hf5 => ?_) (ha := fun _ => rfl)
      refine sgo ?_
      replace hf := hf.trans hf5
      clear hf5
      (first | refine fp1 (.inl rfl) rfl rfl ?_ | refine fp2 (.inl rfl) rfl rfl rfl ?_ | refine fp3 (.inl rfl) rfl rfl rfl rfl ?_ | refine fp0 (.inr rfl) rfl ?_ | refine fp0 (.inl rfl) rfl ?_ | refine fp1 (.inr rfl) rfl rfl ?_); refine ⟨?_, by (first | exact Frm.refl _ | assumption | exact Go.Sv.Sep.frm (by assumption) | (refine Frm.trans ?_ (by assumption); first | exact Frm.refl _ | assumption))⟩; (try simp only [realB, rv_true, Nat.reduceBEq, cond_true, cond_false, entG, real_lif, updGL])
      all_goals rfl
end Go.Proofs.YtjpnhaaneaikbaaDoor

