/-
  Our texts SvLkA, SvLkB, SvLkC, SvLkD, SvFp, SvLn, SvLkE, SvLkF, SvLkG, SvLkH, SvEq, SvTabE, SvLkJ, SvVal, joined.
-/
import Derived.Test.YtffaoehhhdcjjaaMg3
import Derived.Laws.MakeOwn
import Derived.Laws.StructEq
import Derived.Test.YtffaoehhhdcjjaaRows
/-
  Package link: schemes; what is stripped.
-/
set_option linter.unusedSimpArgs false
set_option linter.unusedVariables false
set_option linter.unnecessarySimpa false
namespace Go.Sv
open Go Go.RowKit
section
variable {P : Program} {n : Nat} {ds : Ctx} {ops : Array Oper} {Q : Exit → Ctx → Env → World → Prop} {rest : List Oper} {σ : GE} {w : World} {d : Nat} {ty t e : TypeId} {pos : String} {af : Array Edge} {x y : Operand} {zv : Value} {size bytes c : Nat} {kl kc : IntKind}
/-- make of no elements, with room for c -/
theorem wlmake0 [hu : Und P t (.slice e)] [hi : Inf P e zv size bytes] (h : ∀ b w', w.heap.size ≤ b → Row w' size (pb b) 0 c [] → Frm w w' → WL P n ds ops Q rest (real (updG σ d ⟨.slice (pb b) 0 c, true⟩)) w')
    (hx : evl (real σ) x = .int kl 0 := by rfl) (hy : evl (real σ) y = .int kc c := by rfl) (hb : bytes * c ≤ 281474976710656 := by omega) (hc : c ≤ 9223372036854775807 := by omega) :
    WL P n ds ops Q (⟨some d, .makeSlice t x y, ty, pos, af, none⟩ :: rest) (real σ) w := by
  obtain ⟨i, h1, h2, h3, h4⟩ := inf_size (P := P) (t := e)
  subst h3 h4
  have hbI : (i.bytes : Int) * (c : Int) ≤ 281474976710656 := by
    have h : ((i.bytes * c : Nat) : Int) ≤ 281474976710656 := by omega
    rwa [Int.natCast_mul] at h
  have hr := run_make (P := P) w t e i zv hu.ok h1 h2 kl kc 0 c (Int.le_refl _) (by omega) hbI (by omega)
  simp only [Int.toNat_zero, Int.toNat_natCast] at hr
  refine wl (h w.heap.size (w.alloc (.cells (madeCells zv.cells (c * i.size)) e)) (Nat.le_refl _) ?_ (frm_alloc w _)) (Y.val ?_)
  · refine ⟨by simp, .inr ⟨_, 0, _, _, rfl, heap_alloc_new _ _, by omega, hc, by rw [size_madeCells]; omega, by simp⟩⟩
  · simp only [execOp, hx, hy, Sem.run_bind]
    rw [hr]
    rfl
end
end Go.Sv
namespace Go.Proofs.Ytffaoehhhdcjjaa
open Go Go.Sv Go.RowKit

def schB (c : Nat) : Bool := letterR c || digitR c || decide (c = 43 ∨ c = 45 ∨ c = 46)
theorem schemeByte_ok (c : Nat) (hn : c < 256) (w : World) : PureC Try.prog 62 #[byt c] w (.bool (schB c)) := by
  refine enter (l := [byt c]) Try.func62 rfl Try.ntmps62 (by kernel_rfl) rfl ?_
  refine sgo ?_
  refine wlpure (letter_ok c _) fun w1 hf1 => ?_
  refine sgo ?_
  refine wlcallgp (vals := [i32 c]) (fun _ => digit_ok c _) fun w2 hf2 => ?_
  refine sgo ?_
  (first | refine fp1 (.inl rfl) rfl rfl ?_ | refine fp2 (.inl rfl) rfl rfl rfl ?_ | refine fp3 (.inl rfl) rfl rfl rfl rfl ?_ | refine fp0 (.inr rfl) rfl ?_ | refine fp0 (.inl rfl) rfl ?_ | refine fp1 (.inr rfl) rfl rfl ?_); refine ⟨?_, by (first | exact Frm.refl _ | assumption | (refine Frm.trans ?_ (by assumption); first | exact Frm.refl _ | assumption))⟩; (try simp only [realB, rv_true, Nat.reduceBEq, cond_true, cond_false, entG, real_lif, updGL])
  refine congrArg Value.bool ?_
  unfold schB
  rw [Bool.eq_iff_iff]
  simp only [pkb_or]
  grind
/-- a scheme's end, behind its first byte -/
def schF : List UInt8 → Nat → Nat × Bool
  | [], _ => (0, false)
  | c :: t, i => if c.toNat = 58 then (i, true) else if schB c.toNat then schF t (i + 1) else (0, false)
def schemeR (l : List UInt8) : Nat × Bool := if l = [] ∨ letterR (at0 l 0) = false then (0, false) else schF (l.drop 1) 1
theorem schF_at (l : List UInt8) (i : Nat) (h : i < l.length) : schF (l.drop i) i = if at0 l i = 58 then (i, true) else if schB (at0 l i) then schF (l.drop (i + 1)) (i + 1) else (0, false) := by
  rw [List.drop_eq_getElem_cons h, schF]
  simp [at0, h]
theorem schF_le : ∀ (l : List UInt8) (i : Nat), (schF l i).1 ≤ i + l.length
  | [], i => by simp [schF]
  | c :: t, i => by
    have := schF_le t (i + 1)
    simp only [schF]
    repeat' split
    · simp
    · simp only [List.length_cons]; omega
    · simp
theorem schemeR_le (l : List UInt8) : (schemeR l).1 ≤ l.length := by
  unfold schemeR
  split
  · simp
  · rename_i h
    have := schF_le (l.drop 1) 1
    cases l with
    | nil => simp at h
    | cons c t => simp at this ⊢; omega
set_option maxHeartbeats 1000000 in
theorem scheme_ok (l : List UInt8) (hb : l.length ≤ 4611686018427387904) (w : World) : PureC Try.prog 48 #[str l] w (.tuple #[int (schemeR l).1, .bool (schemeR l).2]) := by
  by_cases hl : l = []
  · subst hl
    refine enter (l := [str []]) Try.func48 rfl Try.ntmps48 (by kernel_rfl) rfl ?_
    refine sgo ?_
    refine wlcallgp (vals := [i32 0]) (fun _ => letter_ok 0 _) fun w1 hf1 => ?_
    refine sgo ?_
    (first | refine fp1 (.inl rfl) rfl rfl ?_ | refine fp2 (.inl rfl) rfl rfl rfl ?_ | refine fp3 (.inl rfl) rfl rfl rfl rfl ?_ | refine fp0 (.inr rfl) rfl ?_ | refine fp0 (.inl rfl) rfl ?_ | refine fp1 (.inr rfl) rfl rfl ?_); refine ⟨?_, by (first | exact Frm.refl _ | assumption | (refine Frm.trans ?_ (by assumption); first | exact Frm.refl _ | assumption))⟩; (try simp only [realB, rv_true, Nat.reduceBEq, cond_true, cond_false, entG, real_lif, updGL])
    rfl
  have hlen := List.length_pos_iff.2 hl
  refine enter (l := [str l]) Try.func48 rfl Try.ntmps48 (by kernel_rfl) rfl ?_
  refine sgo ?_
  have h256 := at_lt l 0
  refine wlcallgp (vals := [i32 (at0 l 0)]) (fun _ => letter_ok (at0 l 0) _) fun w1 hf1 => ?_
  refine sgo ?_
  (show WC _ _ _ _ _ _ _; first | refine WC_dec rfl (fun hc => ?_) (fun hc => ?_) | refine WC_cond rfl (fun hc => ?_) (fun hc => ?_))
  · simp only [pkb_or, Bool.or_eq_true, decide_eq_true_eq, Bool.not_eq_true'] at hc
    refine sgo ?_
    (first | refine fp1 (.inl rfl) rfl rfl ?_ | refine fp2 (.inl rfl) rfl rfl rfl ?_ | refine fp3 (.inl rfl) rfl rfl rfl rfl ?_ | refine fp0 (.inr rfl) rfl ?_ | refine fp0 (.inl rfl) rfl ?_ | refine fp1 (.inr rfl) rfl rfl ?_); refine ⟨?_, by (first | exact Frm.refl _ | assumption | (refine Frm.trans ?_ (by assumption); first | exact Frm.refl _ | assumption))⟩; (try simp only [realB, rv_true, Nat.reduceBEq, cond_true, cond_false, entG, real_lif, updGL])
    rw [schemeR, if_pos hc]
    rfl
  · simp only [pkb_or, Bool.or_eq_false_iff, decide_eq_false_iff_not, Bool.not_eq_false'] at hc
    have hs : schemeR l = schF (l.drop 1) 1 := by
      rw [schemeR, if_neg (by simp [hl, hc.2])]
    rw [hs]
    clear hc
    refine sgo ?_
    refine wcloop (X := Nat) (fun x => [(0, str l), (4, int x)])
      (fun x wr => x ≤ l.length ∧ schF (l.drop x) x = schF (l.drop 1) 1 ∧ Frm w wr) (fun x => l.length - x) 1 ⟨rfl, rfl, trivial⟩ ⟨by omega, rfl, hf1⟩ ?_
    rintro i wr ρ ⟨hi, he, hfr⟩
    refine sgo ?_
    (show WC _ _ _ _ _ _ _; first | refine WC_dec rfl (fun hc => ?_) (fun hc => ?_) | refine WC_cond rfl (fun hc => ?_) (fun hc => ?_))
    · have hil : i < l.length := by omega
      have hstep := schF_at l i hil
      rw [he] at hstep
      rw [hstep]
      have h2 := at_lt l i
      refine sgo ?_
      (show WC _ _ _ _ _ _ _; first | refine WC_dec rfl (fun hc => ?_) (fun hc => ?_) | refine WC_cond rfl (fun hc => ?_) (fun hc => ?_))
      · rw [if_pos (by simp only [at0]; omega)]
        refine sgo ?_
        (first | refine fp1 (.inl rfl) rfl rfl ?_ | refine fp2 (.inl rfl) rfl rfl rfl ?_ | refine fp3 (.inl rfl) rfl rfl rfl rfl ?_ | refine fp0 (.inr rfl) rfl ?_ | refine fp0 (.inl rfl) rfl ?_ | refine fp1 (.inr rfl) rfl rfl ?_); refine ⟨?_, by (first | exact Frm.refl _ | assumption | (refine Frm.trans ?_ (by assumption); first | exact Frm.refl _ | assumption))⟩; (try simp only [realB, rv_true, Nat.reduceBEq, cond_true, cond_false, entG, real_lif, updGL])
      · rw [if_neg (by simp only [at0]; omega)] at hstep ⊢
        refine sgo ?_
        refine wlpure (schemeByte_ok (at0 l i) h2 _) fun w2 hf2 => ?_
        have hfr2 := hfr.trans hf2
        refine sgo ?_
        (show WC _ _ _ _ _ _ _; first | refine WC_dec rfl (fun hc => ?_) (fun hc => ?_) | refine WC_cond rfl (fun hc => ?_) (fun hc => ?_))
        · simp only [Bool.not_eq_true'] at hc
          rw [if_neg (by simp [hc])]
          refine sgo ?_
          (first | refine fp1 (.inl rfl) rfl rfl ?_ | refine fp2 (.inl rfl) rfl rfl rfl ?_ | refine fp3 (.inl rfl) rfl rfl rfl rfl ?_ | refine fp0 (.inr rfl) rfl ?_ | refine fp0 (.inl rfl) rfl ?_ | refine fp1 (.inr rfl) rfl rfl ?_); refine ⟨?_, by (first | exact Frm.refl _ | assumption | (refine Frm.trans ?_ (by assumption); first | exact Frm.refl _ | assumption))⟩; (try simp only [realB, rv_true, Nat.reduceBEq, cond_true, cond_false, entG, real_lif, updGL])
          rfl
        · simp only [Bool.not_eq_false'] at hc
          rw [if_pos hc] at hstep ⊢
          refine sgo ?_
          exact ⟨i + 1, ⟨rfl, rfl, trivial⟩, ⟨by omega, rfl, hfr2⟩, by omega⟩
    · obtain rfl : i = l.length := by omega
      rw [List.drop_length] at he
      rw [← he]
      refine sgo ?_
      (first | refine fp1 (.inl rfl) rfl rfl ?_ | refine fp2 (.inl rfl) rfl rfl rfl ?_ | refine fp3 (.inl rfl) rfl rfl rfl rfl ?_ | refine fp0 (.inr rfl) rfl ?_ | refine fp0 (.inl rfl) rfl ?_ | refine fp1 (.inr rfl) rfl rfl ?_); refine ⟨?_, by (first | exact Frm.refl _ | assumption | (refine Frm.trans ?_ (by assumption); first | exact Frm.refl _ | assumption))⟩; (try simp only [realB, rv_true, Nat.reduceBEq, cond_true, cond_false, entG, real_lif, updGL])
      rfl

theorem gdec {p : Prop} [Decidable p] (h : (true && (decide p == true)) = true) : p := by simpa using h
/-- what is left of runes behind leading blanks and controls -/
def cutL (rs : List Nat) : List Nat := rs.dropWhile fun r => decide (r ≤ 32)
def cutT (rs : List Nat) : List Nat := (cutL rs.reverse).reverse
def keepN (rs : List Nat) : List Nat := rs.filter fun r => decide (r ≠ 9 ∧ r ≠ 10 ∧ r ≠ 13)
def stripN (rs : List Nat) : List Nat := keepN (cutT (cutL rs))
def stripR (l : List UInt8) : List UInt8 := (stripN (runesN l)).flatMap encR
theorem cutL_nil : cutL [] = [] := rfl
theorem cutL_at (rs : List Nat) (i : Nat) (h : i < rs.length) : cutL (rs.drop i) = if rs[i]?.getD 0 ≤ 32 then cutL (rs.drop (i + 1)) else rs.drop i := by
  rw [List.drop_eq_getElem_cons h, cutL, List.dropWhile_cons]
  simp [h, cutL]
theorem cutT_nil : cutT [] = [] := rfl
theorem cutT_at (rs : List Nat) (i : Nat) (h : i < rs.length) : cutT (rs.take (i + 1)) = if rs[i]?.getD 0 ≤ 32 then cutT (rs.take i) else rs.take (i + 1) := by
  rw [List.take_succ_eq_append_getElem h, cutT, List.reverse_append, cutL]
  simp only [List.reverse_cons, List.reverse_nil, List.nil_append, List.cons_append, List.dropWhile_cons]
  simp only [List.getElem?_eq_getElem h, Option.getD_some, decide_eq_true_eq]
  split
  · rfl
  · simp
theorem cutL_mem {rs : List Nat} {r : Nat} (h : r ∈ cutL rs) : r ∈ rs := (List.dropWhile_sublist _).subset h
theorem cutT_mem {rs : List Nat} {r : Nat} (h : r ∈ cutT rs) : r ∈ rs := by
  have := cutL_mem (List.mem_reverse.1 h)
  simpa using this
theorem stripN_mem {rs : List Nat} {r : Nat} (h : r ∈ stripN rs) : r ∈ rs := cutL_mem (cutT_mem (List.mem_filter.1 h).1)
theorem rs32_len (rs : List Nat) : (rs32 rs).length = rs.length := by simp [rs32]
theorem rs32_drop (rs : List Nat) (i : Nat) : (rs32 rs).drop i = rs32 (rs.drop i) := by simp [rs32, List.map_drop]
theorem rs32_take (rs : List Nat) (i : Nat) : (rs32 rs).take i = rs32 (rs.take i) := by simp [rs32, List.map_take]

set_option maxHeartbeats 1000000 in
theorem strip_ok (l : List UInt8) (hb : l.length ≤ 1073741824) (w : World) : PureC Try.prog 47 #[str l] w (str (stripR l)) := by
  refine enter (l := [str l]) Try.func47 rfl Try.ntmps47 (by kernel_rfl) rfl ?_
  refine sgo ?_
  refine wlpure (mend_ok l hb _) fun w1 hf1 => ?_
  have hml := mendR_len l
  refine sgo ?_
  refine wls2r (valid_mend l) (by omega) fun b c w2 hb2 hR2 hf2 => ?_
  rw [runesN_mend] at hR2 ⊢
  have hfr2 := hf1.trans hf2
  have hcap := hR2.le_cap
  have hrl := runesN_len l
  have hgd := runesN_good l
  have hI2 := hR2.im (M := []) (by simp)
  unfold stripR stripN
  generalize runesN l = rs at *
  refine sgo ?_
  refine wcloop (X := Nat × Option Addr × Nat) (fun x => [(3, .slice x.2.1 (rs.length - x.1) x.2.2)])
    (fun x wr => x.1 ≤ rs.length ∧ rs.length - x.1 ≤ x.2.2 ∧ x.2.2 ≤ 9223372036854775807 ∧ Im [] wr x.2.1 (rs32 (rs.drop x.1)) ∧ cutL (rs.drop x.1) = cutL rs ∧ Frm w wr) (fun x => rs.length - x.1) (0, pb b, c) ⟨rfl, trivial⟩ ⟨by omega, hcap.1, hcap.2, hI2, rfl, hfr2⟩ ?_
  rintro ⟨i, p, c1⟩ wr ρ ⟨hi, hc1, hc2, hI, he, hfr⟩
  dsimp only at hi hc1 hc2 hI he ⊢
  have hdl : (rs32 (rs.drop i)).length = rs.length - i := by simp [rs32]
  have hsome : 0 < rs.length - i → ∃ a, p = some a := fun h => hI.some (by omega)
  have hget : 0 < rs.length - i → (rs32 (rs.drop i))[0]? = some (i32 (rs[i]?.getD 0 : Nat)) := fun h => by
    exact rs32_get (by simp [show i < rs.length from by omega])
  have hcut := cutL_at rs i
  generalize rs[i]?.getD 0 = r at *
  refine sgo ?_
  refine wlg (v := ptrAt p 0) ?_ rfl rfl (fun hg => y_idx1 (i := 0) (evG hg) (evG hg) (by have := gdec hg; omega) (hsome (by have := gdec hg; omega)))
  refine wlg (v := i32 r) ?_ rfl rfl (fun hg => y_load (i := 0) (evG hg) hI.sg (hget (by have := gdec hg; omega)))
  refine sgo ?_
  (show WC _ _ _ _ _ _ _; first | refine WC_dec rfl (fun hc => ?_) (fun hc => ?_) | refine WC_cond rfl (fun hc => ?_) (fun hc => ?_))
  · simp only [pkb_and, Bool.and_eq_true, decide_eq_true_eq] at hc
    have hil : i < rs.length := by omega
    have hcut := hcut hil
    rw [if_pos (by omega), he] at hcut
    refine sgo ?_
    have hI3 := hI.part1 (c := c1) (i' := 1) (by intro h; rw [rs32_drop, List.drop_drop, List.drop_eq_nil_of_le (by omega)]; rfl)
    rw [rs32_drop, List.drop_drop] at hI3
    exact ⟨(i + 1, slp c1 1 p 1, c1 - 1), ⟨rfl, trivial⟩, ⟨by dsimp only; omega, by dsimp only; omega, by dsimp only; omega, hI3, hcut.symm, hfr⟩, by dsimp only; omega⟩
  · simp only [pkb_and, Bool.and_eq_false_iff, decide_eq_false_iff_not] at hc
    have hdone : cutL rs = rs.drop i := by
      rcases Nat.lt_or_ge i rs.length with h | h
      · rw [← he, hcut h, if_neg (by omega)]
      · rw [← he, List.drop_eq_nil_of_le h]; rfl
    rw [hdone]
    have hdl2 : (rs.drop i).length = rs.length - i := by simp
    rw [← hdl2] at hc1
    have hgd2 : ∀ r ∈ rs.drop i, Good r := fun r hr => hgd r (List.mem_of_mem_drop hr)
    have hl2 : (rs.drop i).length ≤ 1073741824 := by omega
    clear hc
    refine sgo ?_
    rw [← hdl2]
    clear hdone hdl2 hcut he hget hsome hdl hI2 hR2 hgd hrl
    generalize rs.drop i = qs at *
    refine wcloop (X := Nat) (fun x => [(3, .slice p x c1)])
      (fun x wr => x ≤ qs.length ∧ cutT (qs.take x) = cutT qs ∧ Im [] wr p (rs32 (qs.take x)) ∧ Frm w wr) (fun x => x) qs.length ⟨rfl, trivial⟩ ⟨by omega, by rw [List.take_length], by rw [List.take_length]; exact hI, hfr⟩ ?_
    clear hI hfr hi r wr ρ
    rintro k wr ρ ⟨hk, he, hI, hfr⟩
    have hkl : (qs.take k).length = k := by simp; omega
    have hsome : 0 < k → ∃ a, p = some a := fun h => hI.some (by rw [rs32_length]; omega)
    have hget : 0 < k → (rs32 (qs.take k))[k - 1]? = some (i32 (qs[k - 1]?.getD 0 : Nat)) := fun h => by
      refine rs32_get ?_
      rw [List.getElem?_take_of_lt (by omega)]
      simp [show k - 1 < qs.length from by omega]
    have hcut := cutT_at qs (k - 1)
    generalize qs[k - 1]?.getD 0 = r at *
    have ek : ((k : Int) - 1).toNat = k - 1 := by omega
    refine sgo ?_
    refine wlg (v := ptrAt p ((k : Int) - 1).toNat) ?_ rfl rfl (fun hg => y_idx1I (evG hg) (evG hg) (by have := gdec hg; omega) (hsome (by have := gdec hg; omega)))
    rw [← ek] at hget
    refine wlg (v := i32 r) ?_ rfl rfl (fun hg => y_load (evG hg) hI.sg (hget (by have := gdec hg; omega)))
    refine sgo ?_
    (show WC _ _ _ _ _ _ _; first | refine WC_dec rfl (fun hc => ?_) (fun hc => ?_) | refine WC_cond rfl (fun hc => ?_) (fun hc => ?_))
    · simp only [pkb_and, Bool.and_eq_true, decide_eq_true_eq] at hc
      have h0 : 0 < k := by omega
      have hcut := hcut (by omega)
      rw [if_pos (by omega), Nat.sub_add_cancel h0, he] at hcut
      have hI3 := hI.take (k - 1)
      rw [rs32_take, List.take_take, Nat.min_eq_left (by omega)] at hI3
      refine sgo ?_
      exact ⟨k - 1, ⟨congrArg (fun x => Value.slice p x c1) ek, trivial⟩, ⟨by omega, hcut.symm, hI3, hfr⟩, by omega⟩
    · simp only [pkb_and, Bool.and_eq_false_iff, decide_eq_false_iff_not] at hc
      have hdone : cutT qs = qs.take k := by
        rcases Nat.eq_zero_or_pos k with h | h
        · rw [← he, h]; rfl
        · have := hcut (by omega)
          rw [if_neg (by omega), Nat.sub_add_cancel h, he] at this
          exact this
      rw [hdone]
      have hgd3 : ∀ r ∈ qs.take k, Good r := fun r hr => hgd2 r (List.mem_of_mem_take hr)
      have hl3 : (qs.take k).length ≤ 1073741824 := by omega
      clear hc
      refine sgo ?_
      have hc3 : (qs.take k).length ≤ c1 := by omega
      clear hdone hcut he hget hsome hgd2 hc1 hl2 hk ek
      generalize qs.take k = ts at *
      subst hkl
      have hBw : ∀ {x}, wr.heap.size ≤ x → w.heap.size ≤ x := fun h => Nat.le_trans hfr.size h
      clear hcap hb2 hf2 hf1 hfr2 hc2 hml hb w1 w2
      refine wlmake0 fun b0 w0 hb0 hR0 hf0 => ?_
      replace hI := (hI.fresh hb0).frm hf0
      replace hfr := hfr.trans hf0
      have hBb : ∀ x ∈ rb (pb b0), w.heap.size ≤ x := by
        intro x hx
        simp only [rb, List.mem_singleton] at hx
        subst hx
        exact hBw hb0
      clear hb0 hf0
      refine sgo ?_
      refine wcloop (X := Nat × Option Addr × List Nat × Nat) (fun x => [(4, .slice x.2.1 x.2.2.1.length x.2.2.2), (41, .slice p ts.length c1), (42, int ts.length), (43, int x.1)])
        (fun x wr => x.1 ≤ ts.length ∧ x.2.2.1.length ≤ x.1 ∧ keepN (ts.take x.1) = x.2.2.1 ∧ Row wr 1 x.2.1 x.2.2.1.length x.2.2.2 (rs32 x.2.2.1) ∧ Im (rb x.2.1) wr p (rs32 ts) ∧ (∀ y ∈ rb x.2.1, w.heap.size ≤ y) ∧ Frm w wr) (fun x => ts.length - x.1) (0, pb b0, [], ts.length) ⟨rfl, rfl, rfl, rfl, trivial⟩ ⟨by omega, by simp, rfl, hR0, hI, hBb, hfr⟩ ?_
      clear hR0 hI hBb hfr hBw wr ρ
      rintro ⟨j, q, ks, c2⟩ wr ρ ⟨hj, hkl, hke, hR, hI, hBb, hfr⟩
      dsimp only at hj hkl hke hR hI hBb ⊢
      refine sgo ?_
      (show WC _ _ _ _ _ _ _; first | refine WC_dec rfl (fun hc => ?_) (fun hc => ?_) | refine WC_cond rfl (fun hc => ?_) (fun hc => ?_))
      · have hjl : j < ts.length := by omega
        have hst : keepN (ts.take (j + 1)) = ks ++ keepN [ts[j]?.getD 0] := by
          rw [List.take_succ_eq_append_getElem hjl, keepN, List.filter_append]
          rw [show List.filter _ (ts.take j) = ks from hke]
          simp [hjl, keepN]
        have hget : (rs32 ts)[j]? = some (i32 (ts[j]?.getD 0 : Nat)) := rs32_get (by simp [hjl])
        generalize ts[j]?.getD 0 = r at *
        have hsome := hI.some (by rw [rs32_length]; omega)
        refine sgo ?_
        by_cases hr : r ≠ 9 ∧ r ≠ 10 ∧ r ≠ 13
        · rw [show keepN [r] = [r] from by simp [keepN, hr]] at hst
          iterate 3 (refine sgo ?_; refine WC_dec rfl (fun hc => absurd hc (by omega)) (fun hc => ?_))
          refine sgo ?_
          refine wlb1_int fun b6 w6 hb6 ho6 hf6 => ?_
          refine wlapp (hR.frm hf6) ho6.sg (fun q' c' w7 hR7 hl7 => ?_)
          have hIm7 := (hI.frm hf6).lm hl7
          have hfr7 := (hfr.trans hf6).step hl7.1 hBb
          have hBb7 : ∀ y ∈ rb q', w.heap.size ≤ y := by
            intro y hy
            rcases Nat.lt_or_ge y w6.heap.size with h | h
            · exact hBb y (hl7.2 y hy h)
            · exact Nat.le_trans (hfr.trans hf6).size h
          refine sgo ?_
          exact ⟨(j + 1, q', ks ++ [r], c'), ⟨by rw [List.length_append]; rfl, rfl, rfl, rfl, trivial⟩, ⟨by dsimp only; omega, by simp; omega, hst, by dsimp only; rw [List.length_append, rs32, List.map_append]; exact hR7, hIm7, hBb7, hfr7⟩, by dsimp only; omega⟩
        · rw [show keepN [r] = [] from by simp [keepN]; omega, List.append_nil] at hst
          have hgo : ∀ {A : Prop}, A → A := fun h => h
          by_cases h9 : r = 9
          · subst h9
            refine sgo ?_
            exact ⟨(j + 1, q, ks, c2), ⟨rfl, rfl, rfl, rfl, trivial⟩, ⟨by dsimp only; omega, by dsimp only; omega, hst, hR, hI, hBb, hfr⟩, by dsimp only; omega⟩
          · by_cases h10 : r = 10
            · subst h10
              refine sgo ?_
              exact ⟨(j + 1, q, ks, c2), ⟨rfl, rfl, rfl, rfl, trivial⟩, ⟨by dsimp only; omega, by dsimp only; omega, hst, hR, hI, hBb, hfr⟩, by dsimp only; omega⟩
            · obtain rfl : r = 13 := by omega
              refine sgo ?_
              exact ⟨(j + 1, q, ks, c2), ⟨rfl, rfl, rfl, rfl, trivial⟩, ⟨by dsimp only; omega, by dsimp only; omega, hst, hR, hI, hBb, hfr⟩, by dsimp only; omega⟩
      · obtain rfl : j = ts.length := by omega
        rw [List.take_length] at hke
        rw [← hke] at hR hkl ⊢
        refine sgo ?_
        refine wl ?_ (y_r2s (fun r hr => hgd3 r (List.mem_filter.1 hr).1) hR.sg rfl)
        refine sgo ?_
        (first | refine fp1 (.inl rfl) rfl rfl ?_ | refine fp2 (.inl rfl) rfl rfl rfl ?_ | refine fp3 (.inl rfl) rfl rfl rfl rfl ?_ | refine fp0 (.inr rfl) rfl ?_ | refine fp0 (.inl rfl) rfl ?_ | refine fp1 (.inr rfl) rfl rfl ?_); refine ⟨?_, by (first | exact Frm.refl _ | assumption | (refine Frm.trans ?_ (by assumption); first | exact Frm.refl _ | assumption))⟩; (try simp only [realB, rv_true, Nat.reduceBEq, cond_true, cond_false, entG, real_lif, updGL])
        rfl
      done
end Go.Proofs.Ytffaoehhhdcjjaa

/-
  Package link: Scheme, percent escapes.
-/
set_option linter.unusedSimpArgs false
set_option linter.unusedVariables false
set_option linter.unnecessarySimpa false
namespace Go.Sv
open Go Go.RowKit
/-- a cut behind the code at hand -/
theorem wcutn {P : Program} {n : Nat} {ds : Ctx} {K : Ctx → Env → World → Prop} {Q : Exit → Ctx → Env → World → Prop} {σ : Env} {w : World} {a : Code} {X : Type} (sl : X → List (Nat × Value)) (I : X → World → Prop)
    (ha : WC P n ds a (thl ds (fun σ w => ∃ x, Has σ (sl x) ∧ I x w) Q) σ w) (hb : ∀ x w (ρ : GE), I x w → K ds (real (updGL ρ (sl x))) w) : WC P n ds a (thn K Q) σ w := by
  refine WC_mono ha ?_
  intro e c' σ' w' h
  unfold thl at h
  unfold thn
  cases e <;> try exact h
  obtain ⟨rfl, x, h1, h2⟩ := h
  have := hb x w' (lif σ') h2
  rw [← real_updL, updL_has h1] at this
  exact this
end Go.Sv
namespace Go.Proofs.Ytffaoehhhdcjjaa
open Go Go.Sv Go.RowKit

theorem stripR_len (l : List UInt8) : (stripR l).length ≤ 4 * l.length := by
  have h1 := encR_flat (stripN (runesN l))
  have h2 : (stripN (runesN l)).length ≤ (runesN l).length := by
    unfold stripN keepN cutT cutL
    refine Nat.le_trans (List.length_filter_le _ _) ?_
    rw [List.length_reverse]
    refine Nat.le_trans ((List.dropWhile_sublist _).length_le) ?_
    rw [List.length_reverse]
    exact (List.dropWhile_sublist _).length_le
  have h3 := runesN_len l
  unfold stripR; omega
theorem scheme2_ok (l : List UInt8) (hb : l.length ≤ 1073741824) (w : World) : PureC Try.prog 23 #[str l] w (.tuple #[str (lowR ((stripR l).take (schemeR (stripR l)).1)), .bool (schemeR (stripR l)).2]) := by
  refine enter (l := [str l]) Try.func23 rfl Try.ntmps23 (by kernel_rfl) rfl ?_
  refine sgo ?_
  refine wlpure (strip_ok l hb _) fun w1 hf1 => ?_
  have hl := stripR_len l
  generalize stripR l = s at *
  refine sgo ?_
  refine wlpure (scheme_ok s (by omega) _) fun w2 hf2 => ?_
  have hf := hf1.trans hf2
  have hle := schemeR_le s
  generalize schemeR s = m at *
  refine sgo ?_
  refine wlpure (lower_ok (s.take m.1) (by simp; omega) _) fun w3 hf3 => ?_
  have hf' := hf.trans hf3
  refine sgo ?_
  (first | refine fp1 (.inl rfl) rfl rfl ?_ | refine fp2 (.inl rfl) rfl rfl rfl ?_ | refine fp3 (.inl rfl) rfl rfl rfl rfl ?_ | refine fp0 (.inr rfl) rfl ?_ | refine fp0 (.inl rfl) rfl ?_ | refine fp1 (.inr rfl) rfl rfl ?_); refine ⟨?_, by (first | exact Frm.refl _ | assumption | (refine Frm.trans ?_ (by assumption); first | exact Frm.refl _ | assumption))⟩; (try simp only [realB, rv_true, Nat.reduceBEq, cond_true, cond_false, entG, real_lif, updGL])

/-- two hexadecimal digits ahead? -/
def codedR (l : List UInt8) (i : Nat) : Bool := decide (i + 2 < l.length) && hexR (at0 l (i + 1)) && hexR (at0 l (i + 2))
theorem coded_ok (l : List UInt8) (i : Nat) (hi : i ≤ l.length) (hb : l.length ≤ 4611686018427387904) (w : World) : PureC Try.prog 26 #[str l, int i] w (.bool (codedR l i)) := by
  refine enter (l := [str l, int i]) Try.func26 rfl Try.ntmps26 (by kernel_rfl) rfl ?_
  refine sgo ?_
  have h1 := at_lt l (i + 1)
  have h2 := at_lt l (i + 2)
  refine wlcallgp (vals := [i32 (at0 l (i + 1))]) (fun _ => hex_ok (at0 l (i + 1)) h1 _) fun w1 hf1 => ?_
  refine sgo ?_
  refine wlcallgp (vals := [i32 (at0 l (i + 2))]) (fun _ => hex_ok (at0 l (i + 2)) h2 _) fun w2 hf2 => ?_
  have hf := hf1.trans hf2
  refine sgo ?_
  (first | refine fp1 (.inl rfl) rfl rfl ?_ | refine fp2 (.inl rfl) rfl rfl rfl ?_ | refine fp3 (.inl rfl) rfl rfl rfl rfl ?_ | refine fp0 (.inr rfl) rfl ?_ | refine fp0 (.inl rfl) rfl ?_ | refine fp1 (.inr rfl) rfl rfl ?_); refine ⟨?_, by (first | exact Frm.refl _ | assumption | (refine Frm.trans ?_ (by assumption); first | exact Frm.refl _ | assumption))⟩; (try simp only [realB, rv_true, Nat.reduceBEq, cond_true, cond_false, entG, real_lif, updGL])
  refine congrArg Value.bool ?_
  unfold codedR
  rw [pkb_and, pkb_and]
  rw [show decide ((i : Int) + 2 < l.length) = decide (i + 2 < l.length) from decide_eq_decide.2 (by omega)]
theorem hexes_ok (l : List UInt8) (i : Nat) (hi : i ≤ l.length) (hb : l.length ≤ 4611686018427387904) (w : World) : PureC Try.prog 29 #[str l, int i] w (.bool (codedR l i)) := by
  refine enter (l := [str l, int i]) Try.func29 rfl Try.ntmps29 (by kernel_rfl) rfl ?_
  refine sgo ?_
  have h1 := at_lt l (i + 1)
  have h2 := at_lt l (i + 2)
  refine wlcallgp (vals := [i32 (at0 l (i + 1))]) (fun _ => hex4_ok (at0 l (i + 1)) h1 _) fun w1 hf1 => ?_
  refine sgo ?_
  refine wlcallgp (vals := [i32 (at0 l (i + 2))]) (fun _ => hex4_ok (at0 l (i + 2)) h2 _) fun w2 hf2 => ?_
  have hf := hf1.trans hf2
  refine sgo ?_
  (first | refine fp1 (.inl rfl) rfl rfl ?_ | refine fp2 (.inl rfl) rfl rfl rfl ?_ | refine fp3 (.inl rfl) rfl rfl rfl rfl ?_ | refine fp0 (.inr rfl) rfl ?_ | refine fp0 (.inl rfl) rfl ?_ | refine fp1 (.inr rfl) rfl rfl ?_); refine ⟨?_, by (first | exact Frm.refl _ | assumption | (refine Frm.trans ?_ (by assumption); first | exact Frm.refl _ | assumption))⟩; (try simp only [realB, rv_true, Nat.reduceBEq, cond_true, cond_false, entG, real_lif, updGL])
  refine congrArg Value.bool ?_
  unfold codedR
  rw [pkb_and, pkb_and]
  rw [show decide ((i : Int) + 2 < l.length) = decide (i + 2 < l.length) from decide_eq_decide.2 (by omega)]

def codedS (t : List UInt8) : Bool := decide (1 < t.length) && hexR (at0 t 0) && hexR (at0 t 1)
theorem at_drop (l : List UInt8) (i j : Nat) : at0 (l.drop i) j = at0 l (i + j) := by simp [at0]
theorem codedR_drop (l : List UInt8) (i : Nat) : codedR l i = codedS (l.drop (i + 1)) := by
  unfold codedR codedS
  rw [at_drop, at_drop]
  rw [show decide (1 < (l.drop (i + 1)).length) = decide (i + 2 < l.length) from decide_eq_decide.2 (by simp; omega)]
def badB : List UInt8 := [34, 60, 62, 92, 94, 96, 123, 124, 125]
def escB (c : Nat) (coded : Bool) : Bool := decide (c ≤ 32) || decide (127 ≤ c) || decide (UInt8.ofNat c ∈ badB) || (decide (c = 37) && !coded)
def digs : List UInt8 := [48, 49, 50, 51, 52, 53, 54, 55, 56, 57, 65, 66, 67, 68, 69, 70]
def pct (c : Nat) : List UInt8 := [37, digs[c / 16]?.getD 0, digs[c % 16]?.getD 0]
def encC (c : Nat) (coded : Bool) : List UInt8 := if escB c coded then pct c else [UInt8.ofNat c]
def encL : List UInt8 → List UInt8
  | [] => []
  | c :: t => encC c.toNat (codedS t) ++ encL t
def encodeR (s : List UInt8) : List UInt8 := encL (mendR s)
theorem encL_at (l : List UInt8) (i : Nat) (h : i < l.length) : encL (l.drop i) = encC (at0 l i) (codedR l i) ++ encL (l.drop (i + 1)) := by
  rw [List.drop_eq_getElem_cons h, encL, codedR_drop]
  simp [at0, h]
theorem encC_len (c : Nat) (b : Bool) : (encC c b).length ≤ 3 := by
  unfold encC
  split
  · simp [pct]
  · simp
theorem encL_len : ∀ l : List UInt8, (encL l).length ≤ 3 * l.length
  | [] => by simp [encL]
  | c :: t => by
    have h1 := encL_len t
    have h2 := encC_len c.toNat (codedS t)
    simp only [encL, List.length_append, List.length_cons]; omega
theorem indexByte_mem : ∀ (l : List UInt8) (c : UInt8), (0 ≤ Lib.indexByte l c) ↔ c ∈ l
  | [], c => by simp [Lib.indexByte]
  | b :: l, c => by
    have h := indexByte_mem l c
    have hg := Lib.indexByte_ge l c
    simp only [Lib.indexByte, List.mem_cons]
    by_cases hb : b = c
    · simp [hb]
    · have hb' : ¬ c = b := fun h => hb h.symm
      simp only [beq_iff_eq, hb, hb', if_false, false_or]
      split
      · rename_i h1
        rw [h1] at h
        rw [← h]
      · rw [← h]; omega
theorem indexByte_ok (s : List UInt8) (c : Nat) (w : World) : PureC Try.prog 25 #[str s, byt c] w (int (Lib.indexByte s (UInt8.ofNat c))) := by
  refine Calls.mono (Try.strings_IndexByte ⟨s.toArray⟩ c w) ?_
  rintro e w' ⟨rfl, rfl⟩
  exact ⟨_, rfl, rfl, Frm.refl _⟩
theorem sh4 (c : Nat) : (c : Int).fdiv (2 ^ (min (4 : Int).toNat IntKind.u8.bits)) = ((c / 16 : Nat) : Int) := fd c 16 (by decide)
theorem an15 (c : Nat) (hc : c < 256) : bitop .and .u8 (c : Int) 15 = ((c % 16 : Nat) : Int) := by revert hc; revert c; decide +kernel
set_option maxHeartbeats 2000000 in
theorem encode_ok (l : List UInt8) (hb : l.length ≤ 1073741824) (w : World) : PureC Try.prog 10 #[str l] w (str (encodeR l)) := by
  refine enter (l := [str l]) Try.func10 rfl Try.ntmps10 (by kernel_rfl) rfl ?_
  refine sgo ?_
  refine wlpure (mend_ok l hb _) fun w1 hf1 => ?_
  have hml := mendR_len l
  unfold encodeR
  generalize mendR l = t at *
  refine sgo ?_
  refine wlallocT fun b w0 hbw ha0 hf0 => ?_
  have hB0 : Bld TB TY w0 b none [] := Bld.new ha0
  refine sgo ?_
  refine wcloop (X := Nat × Option Addr × List UInt8) (fun x => [(0, str t), (3, ptrAt (pb b) 0), (9, int t.length), (10, int x.1)])
    (fun x wr => x.1 ≤ t.length ∧ x.2.2 ++ encL (t.drop x.1) = encL t ∧ x.2.2.length ≤ 3 * x.1 ∧ Bld TB TY wr b x.2.1 x.2.2 ∧ Frm w wr ∧ ∀ k ∈ b :: rb x.2.1, w.heap.size ≤ k)
    (fun x => t.length - x.1) (0, none, []) ⟨rfl, rfl, rfl, rfl, trivial⟩ ⟨by omega, by simp, by simp, hB0, hf1.trans hf0, ?_⟩ ?_
  · intro k hk
    simp only [rb, List.mem_singleton] at hk
    subst hk
    exact Nat.le_trans hf1.size hbw
  rintro ⟨i, q, s⟩ wr ρ ⟨hi, he, hsl, hBl, hfr, hq⟩
  dsimp only at hi he hsl hBl hq ⊢
  refine sgo ?_
  (show WC _ _ _ _ _ _ _; first | refine WC_dec rfl (fun hc => ?_) (fun hc => ?_) | refine WC_cond rfl (fun hc => ?_) (fun hc => ?_))
  · have hil : i < t.length := by omega
    have hst := encL_at t i hil
    have h256 := at_lt t i
    have hcd := fun w => coded_ok t i hi (by omega) w
    have fin : ∀ q' w', Bld TB TY w' b q' (s ++ encC (at0 t i) (codedR t i)) → Lm (b :: rb q) wr (b :: rb q') w' →
        (i + 1 ≤ t.length ∧ (s ++ encC (at0 t i) (codedR t i)) ++ encL (t.drop (i + 1)) = encL t ∧ (s ++ encC (at0 t i) (codedR t i)).length ≤ 3 * (i + 1) ∧ Bld TB TY w' b q' (s ++ encC (at0 t i) (codedR t i)) ∧ Frm w w' ∧ ∀ k ∈ b :: rb q', w.heap.size ≤ k) := by
      intro q' w' hB' hl'
      have := encC_len (at0 t i) (codedR t i)
      refine ⟨by omega, ?_, by simp; omega, hB', hfr.step hl'.1 hq, hl'.fresh hfr hq⟩
      rw [← he, hst, List.append_assoc]
    generalize codedR t i = cd at *
    clear hst
    simp only [at0] at fin h256
    refine sgo ?_
    generalize (t[i]?.getD 0).toNat = c at *
    refine wcutn (X := Unit) (fun _ => [(0, str t), (3, ptrAt (pb b) 0), (5, byt c), (9, int t.length), (10, int i), (18, .bool (escB c cd))]) (fun _ w' => Frm wr w') ?_ ?_
    · clear fin
      have fin : ∀ {b1 b2 : Bool}, b1 = b2 → Value.bool b1 = .bool b2 := fun h => h ▸ rfl
      (show WC _ _ _ _ _ _ _; first | refine WC_dec rfl (fun hc => ?_) (fun hc => ?_) | refine WC_cond rfl (fun hc => ?_) (fun hc => ?_))
      · refine sgo ?_
        refine ⟨(), ⟨rfl, rfl, rfl, rfl, rfl, fin ?_, trivial⟩, Frm.refl _⟩
        simp [escB, hc, show c ≤ 32 from by omega]
      · have h1 : ¬ c ≤ 32 := by omega
        refine sgo ?_
        (show WC _ _ _ _ _ _ _; first | refine WC_dec rfl (fun hc => ?_) (fun hc => ?_) | refine WC_cond rfl (fun hc => ?_) (fun hc => ?_))
        · refine sgo ?_
          refine ⟨(), ⟨rfl, rfl, rfl, rfl, rfl, fin ?_, trivial⟩, Frm.refl _⟩
          simp [escB, hc, show 127 ≤ c from by omega]
        · have h2 : ¬ 127 ≤ c := by omega
          refine sgo ?_
          refine wlpure (indexByte_ok badB c _) fun w3 hf3 => ?_
          have hm := indexByte_mem badB (UInt8.ofNat c)
          refine sgo ?_
          (show WC _ _ _ _ _ _ _; first | refine WC_dec rfl (fun hc => ?_) (fun hc => ?_) | refine WC_cond rfl (fun hc => ?_) (fun hc => ?_))
          · refine sgo ?_
            refine ⟨(), ⟨rfl, rfl, rfl, rfl, rfl, fin ?_, trivial⟩, hf3⟩
            simp [escB, hc, hm.1 hc]
          · have h3 : ¬ UInt8.ofNat c ∈ badB := fun h => hc (hm.2 h)
            refine sgo ?_
            refine wlcallgp (vals := [str t, int i]) (fun _ => hcd _) fun w4 hf4 => ?_
            refine sgo ?_
            refine ⟨(), ⟨rfl, rfl, rfl, rfl, rfl, fin ?_, trivial⟩, hf3.trans hf4⟩
            rw [pkb_and, show decide ((c : Int) = 37) = decide (c = 37) from decide_eq_decide.2 (by omega)]
            simp [escB, h1, h2, h3]
    · rintro ⟨⟩ w2 ρ2 hf2
      have hB2 := hBl.frm hf2
      refine sgo ?_
      (show WC _ _ _ _ _ _ _; first | refine WC_dec rfl (fun hc => ?_) (fun hc => ?_) | refine WC_cond rfl (fun hc => ?_) (fun hc => ?_))
      · rw [encC, if_pos hc] at fin
        refine sgo ?_
        refine wlcall (writeByte_ok b q s 37 _ hB2 (by omega)) ?_
        rintro v w3 ⟨rfl, q3, hB3, hl3⟩
        refine sgo ?_
        refine wl ?_ (y_sindexN (l := digs) (i := c / 16) rfl (congrArg (Value.int .u8) (sh4 c)) (by simp only [digs, List.length_cons, List.length_nil]; omega))
        refine sgo ?_
        refine wlcall (writeByte_ok b q3 _ (digs[c / 16]?.getD 0) _ hB3 (by simp; omega)) ?_
        rintro v w4 ⟨rfl, q4, hB4, hl4⟩
        refine sgo ?_
        refine wl ?_ (y_sindexN (l := digs) (i := c % 16) rfl (congrArg (Value.int .u8) (an15 c h256)) (by simp only [digs, List.length_cons, List.length_nil]; omega))
        refine sgo ?_
        refine wlcall (writeByte_ok b q4 _ (digs[c % 16]?.getD 0) _ hB4 (by simp; omega)) ?_
        rintro v w5 ⟨rfl, q5, hB5, hl5⟩
        refine sgo ?_
        exact ⟨(i + 1, q5, s ++ pct c), ⟨rfl, rfl, rfl, rfl, trivial⟩, fin q5 w5 (by simpa [pct] using hB5) (lm_frm hf2 ((hl3.trans hl4).trans hl5)), by dsimp only; omega⟩
      · rw [encC, if_neg (by simp [hc])] at fin
        refine sgo ?_
        have e : byt c = byt (UInt8.ofNat c).toNat := by rw [UInt8.toNat_ofNat_of_lt' (by simpa using h256)]
        rw [e]
        refine wlcall (writeByte_ok b q _ (UInt8.ofNat c) _ hB2 (by omega)) ?_
        rintro v w3 ⟨rfl, q3, hB3, hl3⟩
        refine sgo ?_
        exact ⟨(i + 1, q3, s ++ [UInt8.ofNat c]), ⟨rfl, rfl, rfl, rfl, trivial⟩, fin q3 w3 hB3 (lm_frm hf2 hl3), by dsimp only; omega⟩
  · obtain rfl : i = t.length := by omega
    have he' : s = encL t := by simpa [encL] using he
    subst he'
    refine sgo ?_
    refine wlcall (string_ok w.heap.size b q _ _ hBl hq hfr.size) ?_
    rintro v w5 ⟨rfl, hb5⟩
    refine sgo ?_
    (first | refine fp1 (.inl rfl) rfl rfl ?_ | refine fp2 (.inl rfl) rfl rfl rfl ?_ | refine fp3 (.inl rfl) rfl rfl rfl rfl ?_ | refine fp0 (.inr rfl) rfl ?_ | refine fp0 (.inl rfl) rfl ?_ | refine fp1 (.inr rfl) rfl rfl ?_)
    refine ⟨rfl, ?_⟩
    exact Below.trans hfr hb5
end Go.Proofs.Ytffaoehhhdcjjaa

/-
  Package link: without percent escapes.
-/
set_option linter.unusedSimpArgs false
set_option linter.unusedVariables false
set_option linter.unnecessarySimpa false
namespace Go.Sv
open Go Go.RowKit
section
variable {P : Program} {σ : GE} {w0 : World} {d : Nat} {ty t e : TypeId} {pos : String} {af : Array Edge} {x : Operand} {zv v : Value} {bytes : Nat} {kk : IntKind} {a : Int} {K : Env → World → Prop}
theorem qxb1v [hu : Und P t (.slice e)] [hi : Inf P e zv 1 bytes] (hx : evl (real σ) x = v) (hv : v.cells = #[v]) (h : ∀ b w', Frm w0 w' → w0.heap.size ≤ b → Own w' b [v] → K (real (updG σ d ⟨.slice (pb b) 1 1, true⟩)) w') (hz : zv.cells.size = 1) :
    QX P w0 ⟨some d, .buildSlice t 1 #[(0, x)], ty, pos, af, none⟩ (real σ) K := by
  refine ⟨fun u w => ∃ b, u = .slice (pb b) 1 1 ∧ w0.heap.size ≤ b ∧ Own w b [v], ?_, ?_, ?_⟩
  · rintro u w w' ⟨b, rfl, h1, h2⟩ hf
    exact ⟨b, rfl, h1, h2.frm hf⟩
  · intro w hw
    refine ⟨_, w.alloc (.cells v.cells e), ?_, frm_alloc _ _, w.heap.size, rfl, hw.size, ?_⟩
    · simp only [execOp, List.map_toArray, List.map_cons, List.map_nil, hx, Sem.run_bind]
      rw [run_buildSlice1 (P := P) (t := t) (e := e) hz (by simp [hv]) (by decide) (by decide)]
      rfl
    · have := own_alloc w v.cells e
      simpa [hv] using this
  · rintro u w hw ⟨b, rfl, h1, h2⟩
    have := h b w hw h1 h2
    rw [← real_upd] at this
    exact this
theorem qxb1_int [hu : Und P t (.slice e)] [hi : Inf P e zv 1 bytes] (h : ∀ b w', Frm w0 w' → w0.heap.size ≤ b → Own w' b [.int kk a] → K (real (updG σ d ⟨.slice (pb b) 1 1, true⟩)) w')
    (hx : evl (real σ) x = .int kk a := by rfl) (hz : zv.cells.size = 1 := by rfl) :
    QX P w0 ⟨some d, .buildSlice t 1 #[(0, x)], ty, pos, af, none⟩ (real σ) K := qxb1v hx rfl h hz
theorem qxb1_str [hu : Und P t (.slice e)] [hi : Inf P e zv 1 bytes] {s : List UInt8} (h : ∀ b w', Frm w0 w' → w0.heap.size ≤ b → Own w' b [str s] → K (real (updG σ d ⟨.slice (pb b) 1 1, true⟩)) w')
    (hx : evl (real σ) x = str s := by rfl) (hz : zv.cells.size = 1 := by rfl) :
    QX P w0 ⟨some d, .buildSlice t 1 #[(0, x)], ty, pos, af, none⟩ (real σ) K := qxb1v hx rfl h hz
end
end Go.Sv
namespace Go.Proofs.Ytffaoehhhdcjjaa
open Go Go.Sv Go.RowKit

def valN (c : Nat) : Nat := (valueR c).toNat
theorem valN_of {c : Nat} (h : hexR c = true) : valueR c = (valN c : Int) ∧ valN c < 16 := by
  have h0 : 0 ≤ valueR c := by simpa [hexR] using h
  refine ⟨by unfold valN; omega, ?_⟩
  unfold valN valueR digitR
  simp only [Bool.and_eq_true, decide_eq_true_eq]
  repeat' split
  all_goals omega
theorem hexv_ok (c : Nat) (hn : c < 256) (h : hexR c = true) (w : World) : PureC Try.prog 30 #[i32 c] w (int (valN c)) := by
  have := value_ok c hn w
  rwa [(valN_of h).1] at this
theorem hexv4_ok (c : Nat) (hn : c < 256) (h : hexR c = true) (w : World) : PureC Try.prog 31 #[i32 c] w (int (valN c)) := by
  have := value4_ok c hn w
  rwa [(valN_of h).1] at this
def decL : List UInt8 → List UInt8
  | [] => []
  | c :: t => if c = 37 ∧ codedS t = true then UInt8.ofNat (16 * valN (at0 t 0) + valN (at0 t 1)) :: decL (t.drop 2) else c :: decL t
termination_by l => l.length
decreasing_by
  · simp; omega
  · simp
theorem decL_nil : decL [] = [] := by rw [decL]
def decodeR (s : List UInt8) : List UInt8 := mendR (decL (mendR s))
theorem u8_eq {c : UInt8} {n : Nat} (hn : n < 256) : c = UInt8.ofNat n ↔ c.toNat = n := by
  constructor
  · rintro rfl; rw [UInt8.toNat_ofNat_of_lt' (by simpa using hn)]
  · intro h; rw [← h]; simp
theorem decL_yes (l : List UInt8) (i : Nat) (h : i < l.length) (h1 : at0 l i = 37) (h2 : codedR l i = true) : decL (l.drop i) = UInt8.ofNat (16 * valN (at0 l (i + 1)) + valN (at0 l (i + 2))) :: decL (l.drop (i + 3)) := by
  rw [List.drop_eq_getElem_cons h, decL, ← codedR_drop, if_pos ⟨by
    have : l[i].toNat = 37 := by simpa [at0, h] using h1
    exact (u8_eq (by decide)).2 this, h2⟩, at_drop, at_drop, List.drop_drop]
theorem decL_no (l : List UInt8) (i : Nat) (h : i < l.length) (hn : ¬ (at0 l i = 37 ∧ codedR l i = true)) : decL (l.drop i) = UInt8.ofNat (at0 l i) :: decL (l.drop (i + 1)) := by
  rw [List.drop_eq_getElem_cons h, decL, ← codedR_drop, if_neg]
  · simp [at0, h]
  · rintro ⟨h1, h2⟩
    refine hn ⟨?_, h2⟩
    simp only [at0, List.getElem?_eq_getElem h, Option.getD_some, h1]
    rfl
theorem decL_len : ∀ (n : Nat) (l : List UInt8), l.length ≤ n → (decL l).length ≤ l.length
  | _, [], _ => by rw [decL]; simp
  | 0, c :: t, h => by simp at h
  | n + 1, c :: t, h => by
    simp only [List.length_cons] at h
    rw [decL]
    split
    · have := decL_len n (t.drop 2) (by simp; omega)
      simp only [List.length_cons, List.length_drop] at this ⊢; omega
    · have := decL_len n t (by omega)
      simp only [List.length_cons]; omega
theorem or_hex : ∀ u : Nat, u < 16 → ∀ v : Nat, v < 16 → IntKind.u8.wrap (bitop .or .i64 (IntKind.i64.wrap ((u : Int) * 2 ^ (min (4 : Int).toNat IntKind.i64.bits))) (v : Int)) = ((16 * u + v : Nat) : Int) := by decide +kernel
theorem coded_hex {l : List UInt8} {i : Nat} (h : codedR l i = true) : i + 2 < l.length ∧ hexR (at0 l (i + 1)) = true ∧ hexR (at0 l (i + 2)) = true := by
  simp only [codedR, Bool.and_eq_true, decide_eq_true_eq] at h
  exact ⟨h.1.1, h.1.2, h.2⟩
set_option maxHeartbeats 2000000 in
theorem decode_ok (l : List UInt8) (hb : l.length ≤ 268435456) (w : World) : PureC Try.prog 12 #[str l] w (str (decodeR l)) := by
  refine enter (l := [str l]) Try.func12 rfl Try.ntmps12 (by kernel_rfl) rfl ?_
  refine sgo ?_
  refine wlpure (mend_ok l (by omega) _) fun w1 hf1 => ?_
  have hml := mendR_len l
  unfold decodeR
  generalize mendR l = t at *
  refine sgo ?_
  refine wcloop (X := Nat × Option Addr × List UInt8 × Nat) (fun x => [(0, str t), (3, .slice x.2.1 x.2.2.1.length x.2.2.2), (4, int x.1)])
    (fun x wr => x.1 ≤ t.length ∧ x.2.2.1 ++ decL (t.drop x.1) = decL t ∧ x.2.2.1.length ≤ x.1 ∧ Row wr 1 x.2.1 x.2.2.1.length x.2.2.2 (bs x.2.2.1) ∧ (∀ k ∈ rb x.2.1, w.heap.size ≤ k) ∧ Frm w wr)
    (fun x => t.length - x.1) (0, none, [], 0) ⟨rfl, rfl, rfl, trivial⟩ ⟨by omega, by simp, by simp, Row.nil _ _, rb_nil _, hf1⟩ ?_
  rintro ⟨i, q, s, c⟩ wr ρ ⟨hi, he, hsl, hR, hq, hfr⟩
  dsimp only at hi he hsl hR hq ⊢
  refine sgo ?_
  (show WC _ _ _ _ _ _ _; first | refine WC_dec rfl (fun hc => ?_) (fun hc => ?_) | refine WC_cond rfl (fun hc => ?_) (fun hc => ?_))
  · have hil : i < t.length := by omega
    have h0 := at_lt t i
    refine sgo ?_
    refine wlcallgp (vals := [str t, int i]) (fun _ => coded_ok t i hi (by omega) _) fun w2 hf2 => ?_
    replace hR := hR.frm hf2
    replace hfr := hfr.trans hf2
    refine sgo ?_
    (show WC _ _ _ _ _ _ _; first | refine WC_dec rfl (fun hc => ?_) (fun hc => ?_) | refine WC_cond rfl (fun hc => ?_) (fun hc => ?_))
    · simp only [pkb_and, Bool.and_eq_true, decide_eq_true_eq] at hc
      have hy := decL_yes t i hil (by simp only [at0]; omega) hc.2
      obtain ⟨g1, g2, g3⟩ := coded_hex hc.2
      have h1 := at_lt t (i + 1)
      have h2 := at_lt t (i + 2)
      have v1 := (valN_of g2).2
      have v2 := (valN_of g3).2
      have hor := or_hex _ v1 _ v2
      refine WC_seq ?_
      refine wcdrawx 16 ?_
      refine qgo ?_
      refine qlcallp (fun w _ => hexv_ok (at0 t (i + 1)) h1 g2 w) ?_
      refine qgo ?_
      refine qlcallp (fun w _ => hexv_ok (at0 t (i + 2)) h2 g3 w) ?_
      refine qgo ?_
      refine QL_nil ?_
      refine qxb1_int fun b w3 hf3 hb3 ho3 => ?_
      rw [hor] at ho3
      have hbyt : 16 * valN (at0 t (i + 1)) + valN (at0 t (i + 2)) < 256 := by omega
      generalize 16 * valN (at0 t (i + 1)) + valN (at0 t (i + 2)) = x at *
      clear hor
      refine wlapp (news := bs [UInt8.ofNat x]) (hR.frm hf3) (by
        have e : bs [UInt8.ofNat x] = [byt x] := by simp [bs, Nat.mod_eq_of_lt hbyt]
        rw [e]; exact ho3.sg) (fun q' c' w4 hR4 hl4 => ?_) (hl := by simp [bs]) (h1 := by simp [bs, Value.oneCell'])
      have hfr4 := (hfr.trans hf3).step hl4.1 hq
      have hq4 := hl4.fresh (hfr.trans hf3) hq
      refine sgo ?_
      refine ⟨(i + 3, q', s ++ [UInt8.ofNat x], c'), ⟨rfl, ?_, ?_, trivial⟩, ⟨by dsimp only; omega, ?_, by simp; omega, ?_, hq4, hfr4⟩, by dsimp only; omega⟩
      · dsimp only; rw [List.length_append]; rfl
      · dsimp only; refine congrArg int ?_; omega
      · dsimp only; rw [← he, hy]; simp
      · dsimp only; rw [List.length_append, bs, List.map_append]; exact hR4
    · have hn : ¬ (at0 t i = 37 ∧ codedR t i = true) := by
        rintro ⟨g1, g2⟩
        rw [g2, pkb_and, Bool.and_true] at hc
        simp only [at0] at g1
        simp only [decide_eq_false_iff_not] at hc
        omega
      have hy := decL_no t i hil hn
      refine sgo ?_
      refine wlb1_int fun b w3 hb3 ho3 hf3 => ?_
      refine wlapp (news := bs [UInt8.ofNat (at0 t i)]) (hR.frm hf3) (by
        have e : bs [UInt8.ofNat (at0 t i)] = [byt (at0 t i)] := by simp [bs]
        rw [e]; exact ho3.sg) (fun q' c' w4 hR4 hl4 => ?_) (hl := by simp [bs]) (h1 := by simp [bs, Value.oneCell'])
      have hfr4 := (hfr.trans hf3).step hl4.1 hq
      have hq4 := hl4.fresh (hfr.trans hf3) hq
      refine sgo ?_
      refine ⟨(i + 1, q', s ++ [UInt8.ofNat (at0 t i)], c'), ⟨rfl, ?_, rfl, trivial⟩, ⟨by dsimp only; omega, ?_, by simp; omega, ?_, hq4, hfr4⟩, by dsimp only; omega⟩
      · dsimp only; rw [List.length_append]; rfl
      · dsimp only; rw [← he, hy]; simp
      · dsimp only; rw [List.length_append, bs, List.map_append]; exact hR4
  · obtain rfl : i = t.length := by omega
    have he' : s = decL t := by simpa [decL_nil] using he
    subst he'
    have hdl := decL_len _ t (Nat.le_refl _)
    refine sgo ?_
    refine wl ?_ (y_b2s rfl hR.sg)
    refine sgo ?_
    refine wlpure (mend_ok (decL t) (by omega) _) fun w3 hf3 => ?_
    have hf' := hfr.trans hf3
    refine sgo ?_
    (first | refine fp1 (.inl rfl) rfl rfl ?_ | refine fp2 (.inl rfl) rfl rfl rfl ?_ | refine fp3 (.inl rfl) rfl rfl rfl rfl ?_ | refine fp0 (.inr rfl) rfl ?_ | refine fp0 (.inl rfl) rfl ?_ | refine fp1 (.inr rfl) rfl rfl ?_); refine ⟨?_, by (first | exact Frm.refl _ | assumption | (refine Frm.trans ?_ (by assumption); first | exact Frm.refl _ | assumption))⟩; (try simp only [realB, rv_true, Nat.reduceBEq, cond_true, cond_false, entG, real_lif, updGL])
end Go.Proofs.Ytffaoehhhdcjjaa

/-
  Package sieveref12: Encode, Decode.
-/
set_option linter.unusedSimpArgs false
set_option linter.unusedVariables false
set_option linter.unnecessarySimpa false
namespace Go.Sv
open Go Go.RowKit
section
variable {P : Program} {n : Nat} {ds : Ctx} {ops : Array Oper} {Q : Exit → Ctx → Env → World → Prop} {rest : List Oper} {σ : GE} {w : World} {d : Nat} {ty t t' e : TypeId} {pos : String} {af : Array Edge} {x : Operand} {zv : Value} {bytes : Nat}
def enum (vs : List Value) (j : Nat) : List (Nat × Value) := (vs.zipIdx j).map fun p => (p.2, p.1)
theorem fill_enum : ∀ (vs : List Value) (j : Nat) (z : List Value), (∀ v ∈ vs, v.cells = #[v]) → j + vs.length ≤ z.length →
    Instr.fill (fun i => some (i * 1, 1)) z.toArray (enum vs j) = some (z.take j ++ vs ++ z.drop (j + vs.length)).toArray
  | [], j, z, _, _ => by simp [enum, Instr.fill]
  | v :: vs, j, z, hv, hj => by
    have h1 := hv v List.mem_cons_self
    simp only [List.length_cons] at hj
    have ih := fill_enum vs (j + 1) (z.set j v) (fun u hu => hv u (List.mem_cons_of_mem _ hu)) (by simp; omega)
    simp only [enum, List.zipIdx_cons, List.map_cons, Instr.fill]
    rw [h1]
    simp only [List.size_toArray, List.length_cons, List.length_nil, Nat.mul_one]
    rw [if_neg (by simp; omega)]
    have e : (#[v] : Array Value).zipIdx.foldl (fun cs (x : Value × Nat) => match x with | (c, k) => cs.setIfInBounds (j + k) c) z.toArray = (z.set j v).toArray := by
      simp
    rw [e]
    rw [enum] at ih
    simp only [Nat.mul_one] at ih
    rw [ih]
    congr 2
    have hjl : j < z.length := by omega
    rw [List.take_succ_eq_append_getElem (by simpa using hjl), List.take_set_of_le (Nat.le_refl _), List.drop_set_of_lt (by omega)]
    simp only [List.getElem_set_self, List.append_assoc, List.cons_append, List.nil_append, List.length_cons]
    rw [show j + 1 + vs.length = j + (vs.length + 1) from by omega]
/-- a slice written out, of values of one cell each -/
theorem wlbsn [hu : Und P t (.slice e)] [hi : Inf P e zv 1 bytes] {ps : List (Nat × Operand)} (vs : List Value) (k : Nat) (h : ∀ b w', w.heap.size ≤ b → Own w' b vs → Frm w w' → WL P n ds ops Q rest (real (updG σ d ⟨.slice (pb b) k k, true⟩)) w')
    (hps : ps.map (fun p => (p.1, evl (real σ) p.2)) = enum vs 0 := by rfl) (hk : vs.length = k := by rfl) (h1 : ∀ v ∈ vs, v.cells = #[v]) (hz : zv.cells.size = 1 := by rfl) (hk1 : k ≤ 16777216 := by decide) (hk0 : k ≠ 0 := by decide) :
    WL P n ds ops Q (⟨some d, .buildSlice t k ps.toArray, ty, pos, af, none⟩ :: rest) (real σ) w := by
  subst hk
  refine wl (h w.heap.size (w.alloc (.cells vs.toArray e)) (Nat.le_refl _) (by have := own_alloc w vs.toArray e; simpa using this) (frm_alloc _ _)) (Y.val ?_)
  have hf := fill_enum vs 0 ((Array.range (vs.length * 1)).map (zv.cells[· % zv.cells.size]!)).toList h1 (by simp)
  have hpa : (ps.toArray.map fun (x : Nat × Operand) => match x with | (i, x) => (i, evl (real σ) x)).toList = enum vs 0 := by rw [← hps]; simp
  simp only [execOp, Instr.buildSlice, Sem.run_bind, underlying, run_program, Result.andThen_ok, hu.ok, Sem.run_pure, run_sizeOf (P := P) (t := e), Nat.mul_one]
  rw [if_neg (by omega), if_neg hk0]
  simp only [Sem.run_bind, Sem.run_pure, Result.andThen_ok, run_zeroValue (P := P) (t := e)]
  rw [hpa]
  simp only [Array.toArray_toList, Nat.mul_one] at hf
  rw [hf]
  have hz0 : (vs ++ List.drop vs.length (List.map (fun x => zv.cells[x % zv.cells.size]!) (List.range vs.length))) = vs := by
    rw [List.drop_eq_nil_of_le (by simp), List.append_nil]
  simp [newRow, hz0]
/-- []byte of bytes written out -/
theorem wlmark [hu : Und P t (.slice e)] [he : Und P e (.int .u8)] {b k : Nat} {s : List UInt8} (ho : Own w b (bs s)) (hx : evl (real σ) x = .slice (pb b) k k)
    (h : ∀ w', OwnB w' b s → Le [b] w w' → WL P n ds ops Q rest (real (updG σ d ⟨.slice (pb b) k k, true⟩)) w') :
    WL P n ds ops Q (⟨some d, .convert t t x, ty, pos, af, none⟩ :: rest) (real σ) w := by
  obtain ⟨tt, ho⟩ := ho
  have hlt := (Array.getElem?_eq_some_iff.1 ho).1
  let w' := w.freeze ⟨b, (bs s).toArray.size, none⟩ 1
  have hw' : w'.heap[b]? = some (.cells (bs s).toArray tt ((bs s).toArray.size, (bs s).toArray.size + 1)) := by
    simp only [w', World.freeze, Nat.one_ne_zero, if_false, Array.getElem?_modify, if_true]
    rw [ho]; simp
  have hother : ∀ j, j < w.heap.size → j ∉ [b] → w'.heap[j]? = w.heap[j]? := by
    intro j hj hm
    simp only [List.mem_singleton] at hm
    simp only [w', World.freeze, Nat.one_ne_zero, if_false, Array.getElem?_modify]
    rw [if_neg (by omega)]
  refine wl (h w' ⟨_, tt, _, _, hw', by simp only [bs]; exact List.take_of_length_le (by simp), by simp [bs]⟩ ⟨rfl, rfl, rfl, by simp [w', World.freeze], hother⟩) (Y.val ?_)
  simp only [execOp, hx, convert, underlying, Sem.run_bind, run_program, Result.andThen_ok, hu.ok, he.ok, Sem.run_pure, markStringish, run_shape, beq_self_eq_true]
  have hshape : w.shape? b = some (tt, (bs s).toArray.size) := by simp only [World.shape?, ho]
  rw [hshape]
  simp only [run_freeze, Result.andThen_ok, Sem.run_pure]
  rfl
/-- a rune as a text -/
theorem y_i2s {σ : Env} {d : Option Tmp} {g : Option (Nat × Bool)} {k : IntKind} {r : Nat} [hu : Und P t (.int k)] [hu' : Und P t' .string] (hx : evl σ x = .int k r) (hr : r < 128) : Y P σ ⟨d, .convert t t' x, ty, pos, af, g⟩ w (str [UInt8.ofNat r]) w := by
  refine Y.val ?_
  simp only [execOp, hx, convert, underlying, Sem.run_bind, run_program, Result.andThen_ok, hu.ok, hu'.ok, Sem.run_pure, Conv.intToString]
  have hv : Utf8.valid (r : Int) = true := by
    simp only [Utf8.valid, Bool.and_eq_true, Bool.or_eq_true, decide_eq_true_eq]; omega
  have e : Utf8.encode (r : Int) = ⟨[UInt8.ofNat r].toArray⟩ := by
    unfold Utf8.encode
    rw [if_pos hv]
    simp only [Int.toNat_natCast]
    rw [if_pos (by simpa using hr)]
  rw [e]
end
end Go.Sv
namespace Go.Proofs.Ytffaoehhhdcjjaa
open Go Go.Sv Go.RowKit

theorem digs_at : ∀ q : Nat, q < 16 → (digs.drop q).take 1 = [digs[q]?.getD 0] := by decide
theorem y_dig {P : Program} {σ : Env} {w : World} {d : Option Tmp} {ty t : TypeId} {pos : String} {af : Array Edge} {g : Option (Nat × Bool)} {x y z : Operand} {k k' : IntKind} {a b : Int} [hu : Und P t .string] (q : Nat) (hq : q < 16) (ha : a = q) (hb : b = q + 1) (hx : evl σ x = str digs) (hy : evl σ y = .int k a) (hz : evl σ z = .int k' b) :
    Y P σ ⟨d, .slice t x (some y) (some z) none, ty, pos, af, g⟩ w (str [digs[q]?.getD 0]) w := by
  subst ha hb
  have := y_ssliceI (P := P) (σ := σ) (w := w) (d := d) (ty := ty) (pos := pos) (af := af) (g := g) (t := t) hx hy hz (by simp only [digs, List.length_cons, List.length_nil]; omega)
  rw [show ((q : Int) + 1).toNat = q + 1 by omega, Int.toNat_natCast, show q + 1 - q = 1 by omega, digs_at q hq] at this
  exact this
theorem escB_ref (c : Nat) (cd : Bool) : (pkb (pkb (decide ((c : Int) ≤ 32)) true (decide ((127 : Int) ≤ c))) true (pkb (decide ((c : Int) = 37)) (!cd) false) || decide (UInt8.ofNat c ∈ badB)) = escB c cd := by
  unfold escB
  simp only [pkb_or, pkb_and]
  rw [show decide ((c : Int) ≤ 32) = decide (c ≤ 32) from decide_eq_decide.2 (by omega), show decide ((127 : Int) ≤ c) = decide (127 ≤ c) from decide_eq_decide.2 (by omega), show decide ((c : Int) = 37) = decide (c = 37) from decide_eq_decide.2 (by omega)]
  grind
set_option maxHeartbeats 2000000 in
theorem refEncode_ok (l : List UInt8) (hb : l.length ≤ 268435456) (w : World) : PureC Try.prog 11 #[str l] w (str (encodeR l)) := by
  refine enter (l := [str l]) Try.func11 rfl Try.ntmps11 (by kernel_rfl) rfl ?_
  refine sgo ?_
  refine wlpure (refMend_ok l (by omega) _) fun w1 hf1 => ?_
  have hml := mendR_len l
  unfold encodeR
  generalize mendR l = t at *
  refine sgo ?_
  refine wcloop (X := Nat × List UInt8) (fun x => [(0, str t), (3, str x.2), (12, int t.length), (13, int x.1)])
    (fun x wr => x.1 ≤ t.length ∧ x.2 ++ encL (t.drop x.1) = encL t ∧ x.2.length ≤ 3 * x.1 ∧ Frm w wr)
    (fun x => t.length - x.1) (0, []) ⟨rfl, rfl, rfl, rfl, trivial⟩ ⟨by omega, by simp, by simp, hf1⟩ ?_
  rintro ⟨i, s⟩ wr ρ ⟨hi, he, hsl, hfr⟩
  dsimp only at hi he hsl ⊢
  refine sgo ?_
  (show WC _ _ _ _ _ _ _; first | refine WC_dec rfl (fun hc => ?_) (fun hc => ?_) | refine WC_cond rfl (fun hc => ?_) (fun hc => ?_))
  · have hil : i < t.length := by omega
    have hst := encL_at t i hil
    have h256 := at_lt t i
    have hcd := fun w => hexes_ok t i hi (by omega) w
    have hcl := encC_len (at0 t i) (codedR t i)
    generalize codedR t i = cd at *
    simp only [at0] at hst h256 hcl
    refine sgo ?_
    generalize (t[i]?.getD 0).toNat = c at *
    refine wlcallgp (vals := [str t, int i]) (fun _ => hcd _) fun w2 hf2 => ?_
    replace hfr := hfr.trans hf2
    have hesc := escB_ref c cd
    refine sgo ?_
    generalize pkb (pkb (decide ((c : Int) ≤ 32)) true (decide ((127 : Int) ≤ c))) true (pkb (decide ((c : Int) = 37)) (!cd) false) = b0 at *
    refine wlbsn (bs badB) 9 (fun b w3 hb3 ho3 hf3 => ?_) (h1 := by simp [bs, badB, Value.cells])
    refine wlmark (s := badB) ho3 rfl fun w4 ho4 hl4 => ?_
    replace hfr := (hfr.trans hf3).step hl4 (by intro x hx; simp only [List.mem_singleton] at hx; subst hx; exact Nat.le_trans hfr.size hb3)
    clear ho3 hb3 hf3 hl4
    have hI := ho4.im (M := []) (by simp)
    clear ho4
    (first | refine wlp ?_ | refine WL_nil ?_ | (show WL _ _ _ _ _ (Go.Oper.mk _ _ _ _ _ none :: _) _ _; first | refine wlpk ?_ | refine wl_load ?_ | refine wl_idxa ?_ | refine wl_fld ?_ | refine wl_idx ?_ | refine wl_len ?_ | refine wl_bin ?_ | refine wl_cnv ?_ | refine wl_slc ?_ | refine wl_una ?_ | refine wl_nilc ?_ | refine wl_mkf ?_) | refine wlpg ?_ | refine wlg_load ?_ | refine wlg_idxa ?_ | refine wlg_fld ?_ | refine wlg_idx ?_ | refine wlg_len ?_ | refine wlg_bin ?_ | refine wlg_cnv ?_ | refine wlg_slc ?_ | refine wlg_una ?_ | refine wlg_nilc ?_ | refine wlg_mkf ?_)
    (first | refine wlp ?_ | refine WL_nil ?_ | (show WL _ _ _ _ _ (Go.Oper.mk _ _ _ _ _ none :: _) _ _; first | refine wlpk ?_ | refine wl_load ?_ | refine wl_idxa ?_ | refine wl_fld ?_ | refine wl_idx ?_ | refine wl_len ?_ | refine wl_bin ?_ | refine wl_cnv ?_ | refine wl_slc ?_ | refine wl_una ?_ | refine wl_nilc ?_ | refine wl_mkf ?_) | refine wlpg ?_ | refine wlg_load ?_ | refine wlg_idxa ?_ | refine wlg_fld ?_ | refine wlg_idx ?_ | refine wlg_len ?_ | refine wlg_bin ?_ | refine wlg_cnv ?_ | refine wlg_slc ?_ | refine wlg_una ?_ | refine wlg_nilc ?_ | refine wlg_mkf ?_)
    refine WL_nil ?_; refine thn_normal ?_
    refine wcutn (X := Unit) (fun _ => [(0, str t), (3, str s), (5, byt c), (6, .bool (escB c cd)), (12, int t.length), (13, int i)]) (fun _ w' => Frm w w') ?_ ?_
    · refine sgo ?_
      refine wcloop (X := Nat) (fun k => [(0, str t), (3, str s), (5, byt c), (6, .bool (b0 || decide (UInt8.ofNat c ∈ badB.take k))), (12, int t.length), (13, int i), (36, .slice (pb b) 9 9), (37, int 9), (38, int k)])
        (fun k wr => k ≤ 9 ∧ Im [] wr (pb b) (bs badB) ∧ Frm w wr) (fun k => 9 - k) 0 ⟨rfl, rfl, rfl, by simp; rfl, rfl, rfl, rfl, rfl, rfl, trivial⟩ ⟨by omega, hI, hfr⟩ ?_
      rintro k wr' ρ' ⟨hk, hI', hfr'⟩
      refine sgo ?_
      (show WC _ _ _ _ _ _ _; first | refine WC_dec rfl (fun hc => ?_) (fun hc => ?_) | refine WC_cond rfl (fun hc => ?_) (fun hc => ?_))
      · have hk9 : k < 9 := by omega
        have hlen9 : badB.length = 9 := rfl
        have hget : (bs badB)[k]? = some (byt (at0 badB k)) := bs_get (by rw [hlen9]; exact hk9)
        have hstep : badB.take (k + 1) = badB.take k ++ [UInt8.ofNat (at0 badB k)] := by
          rw [List.take_succ_eq_append_getElem (by rw [hlen9]; exact hk9)]
          simp [at0, hk9, hlen9]
        have hd : at0 badB k < 256 := at_lt _ _
        simp only [at0] at hget hstep hd
        refine sgo ?_
        generalize (badB[k]?.getD 0).toNat = x at *
        refine ⟨k + 1, ⟨rfl, rfl, rfl, ?_, rfl, rfl, rfl, rfl, rfl, trivial⟩, ⟨by omega, hI', hfr'⟩, by omega⟩
        refine congrArg Value.bool ?_
        rw [pkb_or, hstep]
        have e : decide ((c : Int) = x) = decide (UInt8.ofNat c = UInt8.ofNat x) := decide_eq_decide.2 (by
          constructor
          · intro h; rw [show c = x by omega]
          · intro h
            have := congrArg UInt8.toNat h
            rw [UInt8.toNat_ofNat_of_lt' (by simpa using h256), UInt8.toNat_ofNat_of_lt' (by simpa using hd)] at this
            omega)
        rw [e]
        simp only [List.mem_append, List.mem_singleton]
        grind
      · have hk9 : k = 9 := by omega
        subst hk9
        refine sgo ?_
        refine ⟨(), ⟨rfl, rfl, rfl, ?_, rfl, rfl, trivial⟩, hfr'⟩
        exact congrArg Value.bool hesc
    · rintro ⟨⟩ w5 ρ5 hf5
      clear hI hcd hesc
      have fin : ∀ w' : World, Frm w w' → (i + 1 ≤ t.length ∧ (s ++ encC c cd) ++ encL (t.drop (i + 1)) = encL t ∧ (s ++ encC c cd).length ≤ 3 * (i + 1) ∧ Frm w w') := by
        intro w' hw'
        refine ⟨by omega, ?_, by simp; omega, hw'⟩
        rw [← he, hst, List.append_assoc]
      refine sgo ?_
      (show WC _ _ _ _ _ _ _; first | refine WC_dec rfl (fun hc => ?_) (fun hc => ?_) | refine WC_cond rfl (fun hc => ?_) (fun hc => ?_))
      · rw [encC, if_pos hc] at fin
        have e1 := digs_at (c / 16) (by omega)
        have e2 := digs_at (c % 16) (by omega)
        refine sgo ?_
        refine wcdraw ?_
        refine qgo ?_
        refine ql ?_ (YQ.ofY fun wq hwq => y_quo rfl rfl ⟨by omega, by decide, show (c : Int) ≤ 255 by omega⟩)
        refine qgo ?_
        refine ql ?_ (YQ.ofY fun wq hwq => y_quo rfl rfl ⟨by omega, by decide, show (c : Int) ≤ 255 by omega⟩)
        refine qgo ?_
        refine ql ?_ (YQ.ofY fun wq hwq => y_dig (c / 16) (by omega) (a := (c : Int) / 16) (b := (c : Int) / 16 + 1) (by omega) (by omega) rfl rfl rfl)
        refine qgo ?_
        refine ql ?_ (YQ.ofY fun wq hwq => y_dig (c % 16) (by omega) (a := (c : Int) % 16) (b := (c : Int) % 16 + 1) (by omega) (by omega) rfl rfl rfl)
        refine qgo ?_
        refine QL_nil ?_
        intro wd hwd
        refine sgo ?_
        exact ⟨(i + 1, s ++ pct c), ⟨rfl, rfl, rfl, rfl, trivial⟩, fin _ (hf5.trans hwd), by dsimp only; omega⟩
      · rw [encC, if_neg (by simp [hc])] at fin
        have hc128 : c < 128 := by
          have : escB c cd = false := hc
          simp only [escB, Bool.or_eq_false_iff, decide_eq_false_iff_not] at this
          omega
        refine sgo ?_
        refine wl ?_ (y_i2s rfl hc128)
        refine sgo ?_
        exact ⟨(i + 1, s ++ [UInt8.ofNat c]), ⟨rfl, rfl, rfl, rfl, trivial⟩, fin _ hf5, by dsimp only; omega⟩
  · obtain rfl : i = t.length := by omega
    have he' : s = encL t := by simpa [encL] using he
    subst he'
    refine sgo ?_
    (first | refine fp1 (.inl rfl) rfl rfl ?_ | refine fp2 (.inl rfl) rfl rfl rfl ?_ | refine fp3 (.inl rfl) rfl rfl rfl rfl ?_ | refine fp0 (.inr rfl) rfl ?_ | refine fp0 (.inl rfl) rfl ?_ | refine fp1 (.inr rfl) rfl rfl ?_); refine ⟨?_, by (first | exact Frm.refl _ | assumption | (refine Frm.trans ?_ (by assumption); first | exact Frm.refl _ | assumption))⟩; (try simp only [realB, rv_true, Nat.reduceBEq, cond_true, cond_false, entG, real_lif, updGL])
set_option maxHeartbeats 2000000 in
theorem refDecode_ok (l : List UInt8) (hb : l.length ≤ 268435456) (w : World) : PureC Try.prog 13 #[str l] w (str (decodeR l)) := by
  refine enter (l := [str l]) Try.func13 rfl Try.ntmps13 (by kernel_rfl) rfl ?_
  refine sgo ?_
  refine wlpure (refMend_ok l (by omega) _) fun w1 hf1 => ?_
  have hml := mendR_len l
  unfold decodeR
  generalize mendR l = t at *
  refine sgo ?_
  refine wcloop (X := Nat × Option Addr × List UInt8 × Nat) (fun x => [(0, str t), (3, .slice x.2.1 x.2.2.1.length x.2.2.2), (4, int x.1)])
    (fun x wr => x.1 ≤ t.length ∧ x.2.2.1 ++ decL (t.drop x.1) = decL t ∧ x.2.2.1.length ≤ x.1 ∧ Row wr 1 x.2.1 x.2.2.1.length x.2.2.2 (bs x.2.2.1) ∧ (∀ k ∈ rb x.2.1, w.heap.size ≤ k) ∧ Frm w wr)
    (fun x => t.length - x.1) (0, none, [], 0) ⟨rfl, rfl, rfl, trivial⟩ ⟨by omega, by simp, by simp, Row.nil _ _, rb_nil _, hf1⟩ ?_
  rintro ⟨i, q, s, c⟩ wr ρ ⟨hi, he, hsl, hR, hq, hfr⟩
  dsimp only at hi he hsl hR hq ⊢
  refine sgo ?_
  (show WC _ _ _ _ _ _ _; first | refine WC_dec rfl (fun hc => ?_) (fun hc => ?_) | refine WC_cond rfl (fun hc => ?_) (fun hc => ?_))
  · have hil : i < t.length := by omega
    have h0 := at_lt t i
    refine sgo ?_
    refine wlcallgp (vals := [str t, int i]) (fun _ => hexes_ok t i hi (by omega) _) fun w2 hf2 => ?_
    replace hR := hR.frm hf2
    replace hfr := hfr.trans hf2
    refine sgo ?_
    (show WC _ _ _ _ _ _ _; first | refine WC_dec rfl (fun hc => ?_) (fun hc => ?_) | refine WC_cond rfl (fun hc => ?_) (fun hc => ?_))
    · simp only [pkb_and, Bool.and_eq_true, decide_eq_true_eq] at hc
      have hy := decL_yes t i hil (by simp only [at0]; omega) hc.2
      obtain ⟨g1, g2, g3⟩ := coded_hex hc.2
      have h1 := at_lt t (i + 1)
      have h2 := at_lt t (i + 2)
      have v1 := (valN_of g2).2
      have v2 := (valN_of g3).2
      have hor : (16 * (valN (at0 t (i + 1)) : Int) + valN (at0 t (i + 2))) = ((16 * valN (at0 t (i + 1)) + valN (at0 t (i + 2)) : Nat) : Int) := by omega
      refine WC_seq ?_
      refine wcdrawx 16 ?_
      refine qgo ?_
      refine qlcallp (fun w _ => hexv4_ok (at0 t (i + 1)) h1 g2 w) ?_
      refine qgo ?_
      refine qlcallp (fun w _ => hexv4_ok (at0 t (i + 2)) h2 g3 w) ?_
      refine qgo ?_
      refine QL_nil ?_
      refine qxb1_int fun b w3 hf3 hb3 ho3 => ?_
      rw [hor] at ho3
      have hbyt : 16 * valN (at0 t (i + 1)) + valN (at0 t (i + 2)) < 256 := by omega
      generalize 16 * valN (at0 t (i + 1)) + valN (at0 t (i + 2)) = x at *
      clear hor
      refine wlapp (news := bs [UInt8.ofNat x]) (hR.frm hf3) (by
        have e : bs [UInt8.ofNat x] = [byt x] := by simp [bs, Nat.mod_eq_of_lt hbyt]
        rw [e]; exact ho3.sg) (fun q' c' w4 hR4 hl4 => ?_) (hl := by simp [bs]) (h1 := by simp [bs, Value.oneCell'])
      have hfr4 := (hfr.trans hf3).step hl4.1 hq
      have hq4 := hl4.fresh (hfr.trans hf3) hq
      refine sgo ?_
      refine ⟨(i + 3, q', s ++ [UInt8.ofNat x], c'), ⟨rfl, ?_, ?_, trivial⟩, ⟨by dsimp only; omega, ?_, by simp; omega, ?_, hq4, hfr4⟩, by dsimp only; omega⟩
      · dsimp only; rw [List.length_append]; rfl
      · dsimp only; refine congrArg int ?_; omega
      · dsimp only; rw [← he, hy]; simp
      · dsimp only; rw [List.length_append, bs, List.map_append]; exact hR4
    · have hn : ¬ (at0 t i = 37 ∧ codedR t i = true) := by
        rintro ⟨g1, g2⟩
        rw [g2, pkb_and, Bool.and_true] at hc
        simp only [at0] at g1
        simp only [decide_eq_false_iff_not] at hc
        omega
      have hy := decL_no t i hil hn
      refine sgo ?_
      refine wlb1_int fun b w3 hb3 ho3 hf3 => ?_
      refine wlapp (news := bs [UInt8.ofNat (at0 t i)]) (hR.frm hf3) (by
        have e : bs [UInt8.ofNat (at0 t i)] = [byt (at0 t i)] := by simp [bs]
        rw [e]; exact ho3.sg) (fun q' c' w4 hR4 hl4 => ?_) (hl := by simp [bs]) (h1 := by simp [bs, Value.oneCell'])
      have hfr4 := (hfr.trans hf3).step hl4.1 hq
      have hq4 := hl4.fresh (hfr.trans hf3) hq
      refine sgo ?_
      refine ⟨(i + 1, q', s ++ [UInt8.ofNat (at0 t i)], c'), ⟨rfl, ?_, rfl, trivial⟩, ⟨by dsimp only; omega, ?_, by simp; omega, ?_, hq4, hfr4⟩, by dsimp only; omega⟩
      · dsimp only; rw [List.length_append]; rfl
      · dsimp only; rw [← he, hy]; simp
      · dsimp only; rw [List.length_append, bs, List.map_append]; exact hR4
  · obtain rfl : i = t.length := by omega
    have he' : s = decL t := by simpa [decL_nil] using he
    subst he'
    have hdl := decL_len _ t (Nat.le_refl _)
    refine sgo ?_
    refine wl ?_ (y_b2s rfl hR.sg)
    refine sgo ?_
    refine wlpure (refMend_ok (decL t) (by omega) _) fun w3 hf3 => ?_
    have hf' := hfr.trans hf3
    refine sgo ?_
    (first | refine fp1 (.inl rfl) rfl rfl ?_ | refine fp2 (.inl rfl) rfl rfl rfl ?_ | refine fp3 (.inl rfl) rfl rfl rfl rfl ?_ | refine fp0 (.inr rfl) rfl ?_ | refine fp0 (.inl rfl) rfl ?_ | refine fp1 (.inr rfl) rfl rfl ?_); refine ⟨?_, by (first | exact Frm.refl _ | assumption | (refine Frm.trans ?_ (by assumption); first | exact Frm.refl _ | assumption))⟩; (try simp only [realB, rv_true, Nat.reduceBEq, cond_true, cond_false, entG, real_lif, updGL])
end Go.Proofs.Ytffaoehhhdcjjaa

/-
  Arrays written out; a function's end, where its result lies in a cell.
-/
set_option linter.unusedSimpArgs false
set_option linter.unusedVariables false
set_option linter.unnecessarySimpa false
namespace Go.Sv
open Go Go.RowKit
section
variable {P : Program} {σ : Env} {w : World} {d : Option Tmp} {ty t e : TypeId} {pos : String} {af : Array Edge} {g : Option (Nat × Bool)} {x y : Operand} {v1 v2 v3 v4 v5 z1 z2 z3 z4 z5 zv : Value} {x1 x2 x3 x4 x5 : Operand} {bytes bytes' n i : Nat} {k : IntKind} {v : Value} {cs : Array Value}
theorem y_build5 [hu : Und P t (.array 5 e)] [hi : Inf P e zv 1 bytes] [hj : Inf P t (.agg #[z1, z2, z3, z4, z5]) 5 bytes'] (e1 : evl σ x1 = v1) (e2 : evl σ x2 = v2) (e3 : evl σ x3 = v3) (e4 : evl σ x4 = v4) (e5 : evl σ x5 = v5)
    (h1 : v1.cells = #[v1]) (h2 : v2.cells = #[v2]) (h3 : v3.cells = #[v3]) (h4 : v4.cells = #[v4]) (h5 : v5.cells = #[v5]) :
    Y P σ ⟨d, .build t #[(0, x1), (1, x2), (2, x3), (3, x4), (4, x5)], ty, pos, af, g⟩ w (.agg #[v1, v2, v3, v4, v5]) w := by
  refine Y.val ?_
  have hf : Instr.fill (fun i => some (i * 1, 1)) #[z1, z2, z3, z4, z5] [(0, v1), (1, v2), (2, v3), (3, v4), (4, v5)] = some #[v1, v2, v3, v4, v5] := by
    simp [Instr.fill, h1, h2, h3, h4, h5, Array.zipIdx]
  simp only [execOp, List.map_toArray, List.map_cons, List.map_nil, e1, e2, e3, e4, e5, Instr.build, Sem.run_bind, run_zeroValue (P := P) (t := t), Result.andThen_ok, underlying, run_program, hu.ok, Sem.run_pure, run_sizeOf (P := P) (t := e), Value.cells]
  rw [hf]
  rfl
theorem y_aidx [hu : Und P t (.array n e)] [ha : Agg P e false] [hi : Inf P e zv 1 bytes] (hx : evl σ x = .agg cs) (hy : evl σ y = .int k i) (hn : i < n) (hc : cs[i]? = some v) : Y P σ ⟨d, .index t x y, ty, pos, af, g⟩ w v w := by
  refine Y.val ?_
  simp only [execOp, hx, hy, Instr.index, asIntOf, Sem.run_bind, Sem.run_pure, Result.andThen_ok, underlying, run_program, hu.ok]
  have h1 : (0:Int) ≤ i ∧ (i:Int) < n := by omega
  simp [h1, hn, run_sizeOf (P := P) (t := e), part, run_isAgg (P := P) (t := e), hc]
end
theorem fpc {P : Program} {n : Nat} {fn : Func} {R : Value → World → Prop} {σ : Env} {w : World} {tt : Nat} {ty : TypeId} {ex : Exit} {b : Nat} {l : List Value} {zv : Value} {bytes : Nat} {ds : Ctx} (hex : ex = .ret ∨ ex = .normal) (hr : fn.results = #[.cell tt ty]) (ht : Nat.blt tt n = true) (hp : σ tt = .pointer (pb b)) (ho : Own w b l)
    [ha : Agg P ty true] [hi : Inf P ty zv l.length bytes] (h : R (.agg l.toArray) w) (hd : ds.ds = [] := by rfl) : fpost P n fn R ex ds σ w := by
  obtain ⟨T, ho⟩ := ho
  obtain ⟨dd, hd1, hd2⟩ := ha.ok
  obtain ⟨i, hi1, hi2, hi3, hi4⟩ := inf_size (P := P) (t := ty)
  exact fp_of hex hd (results_cell_row (P := P) hr (act n ds.ds σ).tmps w b T l.toArray (0, 0) dd (by rw [act_getD ht]; exact hp) ho hd1 (by revert hd2; cases dd <;> exact id) (by rw [hi1]; simp [hi3])) h
end Go.Sv

/-
  Slices written out of elements of many cells; regions that draw their order, by an invariant of the whole state.
-/
set_option linter.unusedSimpArgs false
set_option linter.unusedVariables false
set_option linter.unnecessarySimpa false
namespace Go.Sv
open Go Go.RowKit
theorem fill_rows (size : Nat) : ∀ (vs : List (List Value)) (j : Nat) (z : List Value), (∀ v ∈ vs, v.length = size) → (j + vs.length) * size ≤ z.length →
    Instr.fill (fun i => some (i * size, size)) z.toArray (enum (vs.map fun l => .agg l.toArray) j) = some (z.take (j * size) ++ vs.flatten ++ z.drop ((j + vs.length) * size)).toArray
  | [], j, z, _, _ => by simp [enum, Instr.fill]
  | v :: vs, j, z, hv, hj => by
    have h1 := hv v List.mem_cons_self
    simp only [List.length_cons] at hj
    have hj1 : (j + 1 + vs.length) * size ≤ z.length := by rw [show j + 1 + vs.length = j + (vs.length + 1) from by omega]; exact hj
    have hle : j * size + size ≤ z.length := by
      refine Nat.le_trans ?_ hj1
      rw [← Nat.succ_mul]
      exact Nat.mul_le_mul_right _ (by omega)
    have hlen : (setSeg z (j * size) v).length = z.length := by simp only [setSeg, List.length_append, List.length_take, List.length_drop, h1]; omega
    have ih := fill_rows size vs (j + 1) (setSeg z (j * size) v) (fun u hu => hv u (List.mem_cons_of_mem _ hu)) (by rw [hlen]; exact hj1)
    simp only [enum, List.map_cons, List.zipIdx_cons, Instr.fill]
    have hu : (Value.agg v.toArray).cells = v.toArray := rfl
    generalize Value.agg v.toArray = u at hu
    have hcond : ¬ ((u.cells.size ≠ size || j * size + u.cells.size > z.toArray.size) = true) := by simp [hu, h1]; omega
    simp only [hcond, if_false]
    have hf := foldl_setSeg (j * size) v 0 z.toArray (by simp [h1]; omega)
    have hf2 : u.cells.zipIdx.foldl (fun cs (x : Value × Nat) => cs.setIfInBounds (j * size + x.2) x.1) z.toArray = (setSeg z (j * size) v).toArray := by
      rw [hu, ← Array.foldl_toList]
      simpa [Array.toList_zipIdx] using hf
    rw [show (fun cs (x : Value × Nat) => match x with | (c, k) => cs.setIfInBounds (j * size + k) c) = (fun (cs : Array Value) (x : Value × Nat) => cs.setIfInBounds (j * size + x.2) x.1) from rfl, hf2]
    rw [enum] at ih
    rw [ih]
    congr 1
    have e1 : (setSeg z (j * size) v).take ((j + 1) * size) = z.take (j * size) ++ v := by
      simp only [setSeg]
      rw [Nat.succ_mul, List.take_left' (by simp only [List.length_append, List.length_take, h1]; omega)]
    have e2 : (setSeg z (j * size) v).drop ((j + 1 + vs.length) * size) = z.drop ((j + (vs.length + 1)) * size) := by
      simp only [setSeg, h1]
      rw [List.drop_append, List.drop_eq_nil_of_le (by simp only [List.length_append, List.length_take, h1]; rw [Nat.min_eq_left (by omega), ← Nat.succ_mul]; exact Nat.mul_le_mul_right _ (by omega)), List.nil_append, List.drop_drop]
      congr 1
      simp only [List.length_append, List.length_take, h1]
      have : (j + 1 + vs.length) * size = j * size + size + vs.length * size := by rw [Nat.add_mul, Nat.succ_mul]
      have h2 : (j + (vs.length + 1)) * size = j * size + size + vs.length * size := by rw [← Nat.add_assoc, Nat.add_mul, Nat.add_mul]; omega
      rw [Nat.min_eq_left (by omega), this, h2]
      omega
    rw [e1, e2]
    simp
section
variable {P : Program} {n : Nat} {ds : Ctx} {ops : Array Oper} {Q : Exit → Ctx → Env → World → Prop} {rest : List Oper} {σ : GE} {w : World} {d : Nat} {ty t t' e : TypeId} {pos : String} {af : Array Edge} {x : Operand} {zv : Value} {size bytes : Nat}
/-- a slice written out, of structs -/
theorem wlbsr [hu : Und P t (.slice e)] [hi : Inf P e zv size bytes] {ps : List (Nat × Operand)} (vs : List (List Value)) (k : Nat) (h : ∀ b w', w.heap.size ≤ b → Own w' b vs.flatten → Frm w w' → WL P n ds ops Q rest (real (updG σ d ⟨.slice (pb b) k k, true⟩)) w')
    (hps : ps.map (fun p => (p.1, evl (real σ) p.2)) = enum (vs.map fun l => .agg l.toArray) 0 := by rfl) (hk : vs.length = k := by rfl) (h1 : ∀ v ∈ vs, v.length = size := by simp) (hz : zv.cells.size = size := by rfl) (hk1 : k * size ≤ 16777216 := by decide) (hk0 : k * size ≠ 0 := by decide) :
    WL P n ds ops Q (⟨some d, .buildSlice t k ps.toArray, ty, pos, af, none⟩ :: rest) (real σ) w := by
  subst hk
  have hfl : ∀ l : List (List Value), (∀ v ∈ l, v.length = size) → l.flatten.length = l.length * size := by
    intro l
    induction l with
    | nil => simp
    | cons v l ih => intro h; simp only [List.flatten_cons, List.length_append, List.length_cons, Nat.succ_mul]; rw [h v List.mem_cons_self, ih fun u hu => h u (List.mem_cons_of_mem _ hu)]; omega
  refine wl (h w.heap.size (w.alloc (.cells vs.flatten.toArray e)) (Nat.le_refl _) (by have := own_alloc w vs.flatten.toArray e; simpa using this) (frm_alloc _ _)) (Y.val ?_)
  have hf := fill_rows size vs 0 ((Array.range (vs.length * size)).map (zv.cells[· % zv.cells.size]!)).toList h1 (by simp)
  have hpa : (ps.toArray.map fun (x : Nat × Operand) => match x with | (i, x) => (i, evl (real σ) x)).toList = enum (vs.map fun l => .agg l.toArray) 0 := by rw [← hps]; simp
  simp only [execOp, Instr.buildSlice, Sem.run_bind, underlying, run_program, Result.andThen_ok, hu.ok, Sem.run_pure, run_sizeOf (P := P) (t := e)]
  rw [if_neg (by omega), if_neg hk0]
  simp only [Sem.run_bind, Sem.run_pure, Result.andThen_ok, run_zeroValue (P := P) (t := e)]
  rw [hpa]
  simp only [Array.toArray_toList, Nat.zero_mul, Nat.zero_add] at hf
  rw [hf]
  have hz0 : List.drop (vs.length * size) (List.map (fun x => zv.cells[x % zv.cells.size]!) (List.range (vs.length * size))) = [] := List.drop_eq_nil_of_le (by simp)
  simp [newRow, hz0]
end

/-! ## Regions that draw their order, by an invariant -/
def fwdB (ops : Array Oper) : Bool := (List.range ops.size).all fun j => match ops[j]? with
  | some o => o.after.all fun e => !Region.binds .any e || decide (e.on < j)
  | none => true
theorem ready_of_fwd {ops : Array Oper} (hf : fwdB ops = true) {listed : Array Bool} (hsz : listed.size = ops.size) (hr : Region.ready .any ops listed = []) : ∀ k, k < ops.size → fl listed k = true := by
  intro k
  induction k using Nat.strongRecOn with
  | _ k ih =>
    intro hk
    cases hL : fl listed k with
    | true => rfl
    | false =>
      exfalso
      have hmem : k ∈ Region.ready .any ops listed := by
        refine mem_ready.2 ⟨?_, ops[k], by simp [hk], ?_⟩
        · simp only [fl, Array.getD_eq_getD_getElem?, show k < listed.size from by omega, Array.getElem?_eq_getElem, Option.getD_some] at hL ⊢
          exact hL
        · intro e he hb
          simp only [fwdB, List.all_eq_true, List.mem_range] at hf
          have h1 := hf k hk
          simp only [hk, Array.getElem?_eq_getElem] at h1
          have h2 := Array.all_eq_true_iff_forall_mem.1 h1 e he
          simp only [hb, Bool.not_true, Bool.false_or, decide_eq_true_eq] at h2
          exact ih e.on h2 (by omega)
      rw [hr] at hmem
      cases hmem
/-- what comes of an operation, whatever it yields -/
def comes (P : Program) (T : Value → World → Prop) : Result Next → Prop
  | .ok (.value u) w' => T u w'
  | .ok .skip w' => T undef w'
  | .ok (.enter f args) w' => Calls P f args w' (fun e w'' => ∃ v, e = .returned v ∧ T v w'')
  | _ => False
def StepI (P : Program) (ops : Array Oper) (S : (Nat → Bool) → Env → World → Prop) (k : Nat) (o : Oper) : Prop := ∀ L σ w, Up ops o k L → S L σ w →
  (Region.wanted o (yl ops σ) = true ∧ comes P (fun v w' => S (on L k) (updO σ o.dst v) w') ((execOp (evl σ) o).run P w)) ∨ (Region.wanted o (yl ops σ) = false ∧ S (on L k) (updO σ o.dst undef) w)
def StepsI (P : Program) (ops : Array Oper) (S : (Nat → Bool) → Env → World → Prop) : Nat → List Oper → Prop
  | _, [] => True
  | k, o :: l => StepI P ops S k o ∧ StepsI P ops S (k + 1) l
theorem stepsI_get {P : Program} {ops : Array Oper} {S : (Nat → Bool) → Env → World → Prop} : ∀ {l : List Oper} {k : Nat}, StepsI P ops S k l → ∀ j o, l[j]? = some o → StepI P ops S (k + j) o
  | [], _, _, j, o, h => by simp at h
  | x :: l, k, hs, 0, o, h => by simp only [List.getElem?_cons_zero, Option.some.injEq] at h; subst h; exact hs.1
  | x :: l, k, hs, j + 1, o, h => by
    have := stepsI_get hs.2 j o (by simpa using h)
    rwa [show k + 1 + j = k + (j + 1) from by omega] at this
section
variable {P : Program} {n : Nat} {ds : Ctx} {Q : Exit → Ctx → Env → World → Prop} {S : (Nat → Bool) → Env → World → Prop} {σ : Env} {w : World}
theorem wpAny_of_I {ops : Array Oper} {dd : List Deferred} {Q' : Exit → Act → World → Prop} (hf : fwdB ops = true) (hin : ops.toList.all (operIn n false ops) = true) (hop : ∀ k o, ops[k]? = some o → StepI P ops S k o)
    (hQ : ∀ L σ w, (∀ k, k < ops.size → L k = true) → S L σ w → Q' .normal (act n dd σ) w) :
    ∀ (f : Nat) (listed : Array Bool) (σ : Env) (w : World), listed.size = ops.size → Clo ops (fl listed) → listed.toList.count false ≤ f → S (fl listed) σ w → wpAny P .any ops Q' f listed (act n dd σ) w
  | 0, listed, σ, w, hsz, _, hc, hS => by
    have hall : ∀ k, k < ops.size → fl listed k = true := by
      intro k hk
      cases hL : fl listed k with
      | true => rfl
      | false =>
        exfalso
        simp only [fl, Array.getD_eq_getD_getElem?, show k < listed.size from by omega, Array.getElem?_eq_getElem, Option.getD_some] at hL
        have : false ∈ listed.toList := by rw [← hL]; simp
        have := List.count_pos_iff.2 this
        omega
    refine ⟨?_, hQ _ _ _ hall hS⟩
    cases hr : Region.ready .any ops listed with
    | nil => rfl
    | cons i r =>
      exfalso
      have hi : i ∈ Region.ready .any ops listed := by rw [hr]; exact List.mem_cons_self
      obtain ⟨h0, o, ho, _⟩ := mem_ready.1 hi
      have hk : i < ops.size := (Array.getElem?_eq_some_iff.1 ho).1
      have := hall i hk
      simp only [fl, Array.getD_eq_getD_getElem?, show i < listed.size from by omega, Array.getElem?_eq_getElem, Option.getD_some] at this h0
      rw [this] at h0
      cases h0
  | f + 1, listed, σ, w, hsz, hcl, hc, hS => by
    refine ⟨fun hr => hQ _ _ _ (ready_of_fwd hf hsz hr) hS, fun i hi => ?_⟩
    obtain ⟨h0, o, ho, hall⟩ := mem_ready.1 hi
    have hio : i < ops.size := (Array.getElem?_eq_some_iff.1 ho).1
    have hlt : i < listed.size := by omega
    have h0' : listed[i] = false := by simpa [hlt] using h0
    have hup : Up ops o i (fl listed) := by
      refine ⟨by simp [fl, hlt, h0'], ?_, ?_⟩
      · intro j hj
        obtain ⟨e, he, hb, rfl⟩ := bindsOn_iff.1 hj
        exact hall e he hb
      · intro j oj hj hb
        cases hL : fl listed j with
        | false => rfl
        | true =>
          have h1 := hcl j oj hj hL i hb
          have h2 : fl listed i = true := h1
          simp [fl, hlt, h0'] at h2
    have hino : operIn n false ops o = true := by
      rw [List.all_eq_true] at hin
      exact hin o (by simpa using Array.mem_of_getElem? ho)
    have next : ∀ v w', S (on (fl listed) i) (updO σ o.dst v) w' → wpAny P .any ops Q' f (listed.setIfInBounds i true) ((act n dd σ).put o.dst v) w' := fun v w' hw' => by
      rw [act_put (operIn_dst hino)]
      refine wpAny_of_I hf hin hop hQ f _ _ _ (by simpa using hsz) (by rw [fl_set hlt]; exact clo_on hcl ho hup.did) ?_ (by rw [fl_set hlt]; exact hw')
      rw [Array.toList_setIfInBounds, List.count_set]
      · have hb : listed.toList[i]'(by simpa using hlt) = false := by simpa using h0'
        have hpos : 0 < listed.toList.count false := List.count_pos_iff.2 (by rw [← hb]; exact List.getElem_mem _)
        rw [hb]; simp only [beq_self_eq_true, if_true]; simp; rw [Array.count_toList] at *; omega
      · simpa using hlt
    unfold wpOp
    simp only [ho]
    rw [act_yielded hino]
    rcases hop i o ho _ σ w hup hS with ⟨hw, hy⟩ | ⟨hw, hy⟩
    · rw [hw, if_pos rfl]
      refine .inl ?_
      unfold Oper.wp
      rw [act_exec hino]
      generalize (execOp (evl σ) o).run P w = r at *
      cases r with
      | ok x w' =>
        cases x <;> simp only [comes] at hy <;> simp only [Oper.upon]
        case value u => exact next _ _ hy
        case skip => exact next _ _ hy
        case enter g args =>
          refine Calls.mono hy ?_
          rintro e w'' ⟨v, rfl, h2⟩
          exact next _ _ h2
      | halt x w' => simp only [comes] at hy
    · rw [hw, if_neg Bool.false_ne_true]
      exact next _ _ hy
theorem wcdrawi [hm : Mix P] {id : Nat} {ops : List Oper} (S : (Nat → Bool) → Env → World → Prop) (h0 : ∀ wd, Frm w wd → S (fun _ => false) σ wd) (hop : StepsI P ops.toArray S 0 ops)
    (hend : ∀ L σ' w', (∀ k, k < ops.length → L k = true) → S L σ' w' → Q .normal ds σ' w') (hf : fwdB ops.toArray = true := by kernel_rfl) (hro : ds.ro = none := by rfl) : WC P n ds (.region id ops.toArray true) Q σ w := by
  obtain ⟨dd, ro⟩ := ds
  dsimp only at hro
  subst hro
  unfold WC
  intro hin
  have hin' : ops.all (operIn n false ops.toArray) = true := by simpa [codeIn] using hin
  refine wpIn_wide.2 (wp_region_any hm.ok ?_)
  have e0 : fl (Array.replicate ops.toArray.size false) = fun _ => false := by funext k; exact getD_replicate_false _ _
  refine wpAny_of_I (S := S) (n := n) hf (by simpa using hin') (fun k o ho => ?_) ?_ _ _ _ _ (by simp) ?_ ?_ ?_
  · have := stepsI_get hop k o (by simpa using ho)
    rwa [Nat.zero_add] at this
  · intro L σ' w' hL hS
    exact ⟨dd, σ', rfl, hend L σ' w' (by simpa using hL) hS⟩
  · rw [e0]; intro j oj _ hL; cases hL
  · simp
  · rw [e0]; exact h0 _ (Frm.drawn (Frm.refl w))
theorem comes_of_Y {o : Oper} {v : Value} {w w' : World} {T : Value → World → Prop} (hy : Y P σ o w v w') (hT : T v w') : comes P T ((execOp (evl σ) o).run P w) := by
  unfold Y at hy
  rcases hy with hy | ⟨hy, rfl⟩
  · rw [hy]; exact hT
  · rw [hy]; exact hT
end
end Go.Sv

/-
  Package link: paths without dot segments; the twins.
-/
set_option linter.unusedSimpArgs false
set_option linter.unusedVariables false
set_option linter.unnecessarySimpa false
namespace Go.Sv
open Go Go.RowKit
section
variable {P : Program} {σ : Env} {w : World} {d : Option Tmp} {ty t t' : TypeId} {pos : String} {af : Array Edge} {g : Option (Nat × Bool)} {x y : Operand} {a b : Int} {ats : Array TypeId}
theorem y_max (hx : evl σ x = int a) (hy : evl σ y = int b) : Y P σ ⟨d, .call ⟨.builtin .max, #[x, y], ats⟩, ty, pos, af, g⟩ w (int (max a b)) w := by
  refine Y.val ?_; simp only [execOp, resolve, Sem.run_bind, Sem.run_pure, Result.andThen_ok, invoke, builtin]
  have e : (if b > a then b else a) = max a b := by omega
  simp [hx, hy, Builtin.max_, Builtin.max2, e]
end
end Go.Sv
namespace Go.Proofs.Ytffaoehhhdcjjaa
open Go Go.Sv Go.RowKit

/-- how many bytes stand ahead of the first of some -/
def upR (l sm : List UInt8) : Nat := (l.takeWhile fun c => decide (c ∉ sm)).length
theorem upR_le (l sm : List UInt8) : upR l sm ≤ l.length := (List.takeWhile_sublist _).length_le
theorem upR_cons (c : UInt8) (l sm : List UInt8) : upR (c :: l) sm = if c ∈ sm then 0 else upR l sm + 1 := by
  unfold upR
  rw [List.takeWhile_cons]
  by_cases h : c ∈ sm <;> simp [h]
theorem upR_at : ∀ (l sm : List UInt8) (i : Nat), i < l.length → (∀ j, j < i → UInt8.ofNat (at0 l j) ∉ sm) → UInt8.ofNat (at0 l i) ∈ sm → upR l sm = i
  | [], _, i, h, _, _ => by simp at h
  | c :: l, sm, 0, _, _, h => by
    rw [upR_cons, if_pos (by simpa [at0] using h)]
  | c :: l, sm, i + 1, hi, hj, h => by
    have h0 := hj 0 (by omega)
    rw [upR_cons, if_neg (by simpa [at0] using h0), upR_at l sm i (by simpa using hi) (fun j hj' => by have := hj (j + 1) (by omega); simpa [at0] using this) (by simpa [at0] using h)]
theorem upR_all : ∀ (l sm : List UInt8), (∀ j, j < l.length → UInt8.ofNat (at0 l j) ∉ sm) → upR l sm = l.length
  | [], _, _ => rfl
  | c :: l, sm, hj => by
    have h0 := hj 0 (by simp)
    rw [upR_cons, if_neg (by simpa [at0] using h0), upR_all l sm (fun j hj' => by have := hj (j + 1) (by simpa using hj'); simpa [at0] using this)]
    rfl
theorem indexByte_up : ∀ (l : List UInt8) (c : UInt8), Lib.indexByte l c = if c ∈ l then (upR l [c] : Int) else -1
  | [], c => by simp [Lib.indexByte]
  | b :: l, c => by
    have h := indexByte_up l c
    have hg := Lib.indexByte_ge l c
    simp only [Lib.indexByte, upR_cons, List.mem_cons, List.mem_singleton, List.not_mem_nil, or_false]
    by_cases hb : b = c
    · simp [hb]
    · have hb' : ¬ c = b := fun h => hb h.symm
      simp only [beq_iff_eq, hb, hb', if_false, false_or]
      by_cases hm : c ∈ l
      · rw [if_pos hm] at h ⊢
        rw [h, if_neg (by omega)]; omega
      · rw [if_neg hm] at h ⊢
        rw [h]; rfl
theorem up_not {l : List UInt8} {c : UInt8} (h : c ∉ l) : upR l [c] = l.length := by
  refine upR_all l [c] fun j hj hm => h ?_
  simp only [at0, List.getElem?_eq_getElem hj, Option.getD_some, List.mem_singleton] at hm
  rw [← hm]
  simp
theorem hasPrefix_ok (s p : List UInt8) (w : World) : PureC Try.prog 32 #[str s, str p] w (.bool (p.isPrefixOf s)) := by
  refine Calls.mono (Try.strings_HasPrefix ⟨s.toArray⟩ ⟨p.toArray⟩ w) ?_
  rintro e w' ⟨rfl, rfl⟩
  exact ⟨_, rfl, rfl, Frm.refl _⟩
theorem begins_ok (s p : List UInt8) (w : World) : PureC Try.prog 34 #[str s, str p] w (.bool (p.isPrefixOf s)) := by
  refine enter (l := [str s, str p]) Try.func34 rfl Try.ntmps34 (by kernel_rfl) rfl ?_
  refine sgo ?_
  (first | refine fp1 (.inl rfl) rfl rfl ?_ | refine fp2 (.inl rfl) rfl rfl rfl ?_ | refine fp3 (.inl rfl) rfl rfl rfl rfl ?_ | refine fp0 (.inr rfl) rfl ?_ | refine fp0 (.inl rfl) rfl ?_ | refine fp1 (.inr rfl) rfl rfl ?_); refine ⟨?_, by (first | exact Frm.refl _ | assumption | (refine Frm.trans ?_ (by assumption); first | exact Frm.refl _ | assumption))⟩; (try simp only [realB, rv_true, Nat.reduceBEq, cond_true, cond_false, entG, real_lif, updGL])
  refine congrArg Value.bool ?_
  rw [pkb_and, Bool.eq_iff_iff]
  simp only [Bool.and_eq_true, decide_eq_true_eq, List.isPrefixOf_iff_prefix, List.prefix_iff_eq_take]
  constructor
  · rintro ⟨_, h⟩; exact h.symm
  · intro h
    have := congrArg List.length h
    simp at this
    exact ⟨by omega, h.symm⟩
/-- the last place below n where c stands -/
def lastF (l : List UInt8) (c : Nat) : Nat → Int
  | 0 => -1
  | n + 1 => if at0 l n = c then n else lastF l c n
def lastR (l : List UInt8) (c : Nat) : Int := lastF l c l.length
theorem lastF_rng (l : List UInt8) (c : Nat) : ∀ n, -1 ≤ lastF l c n ∧ lastF l c n < n
  | 0 => by simp [lastF]
  | n + 1 => by
    have := lastF_rng l c n
    simp only [lastF]
    split <;> omega
theorem last0_ok (l : List UInt8) (c : Nat) (hb : l.length ≤ 4611686018427387904) (w : World) : PureC Try.prog 60 #[str l, byt c] w (int (lastR l c)) := by
  refine enter (l := [str l, byt c]) Try.func60 rfl Try.ntmps60 (by kernel_rfl) rfl ?_
  refine sgo ?_
  refine wcloop (X := Nat) (fun x => [(0, str l), (1, byt c), (5, int ((x : Int) - 1))])
    (fun x wr => x ≤ l.length ∧ lastF l c x = lastR l c ∧ Frm w wr) (fun x => x) l.length ⟨rfl, rfl, rfl, trivial⟩ ⟨Nat.le_refl _, rfl, Frm.refl _⟩ ?_
  rintro x wr ρ ⟨hx, he, hfr⟩
  refine sgo ?_
  (show WC _ _ _ _ _ _ _; first | refine WC_dec rfl (fun hc => ?_) (fun hc => ?_) | refine WC_cond rfl (fun hc => ?_) (fun hc => ?_))
  · obtain ⟨k, rfl⟩ : ∃ k, x = k + 1 := ⟨x - 1, by omega⟩
    simp only [lastF] at he
    refine sgo ?_
    have e : (((k + 1 : Nat) : Int) - 1).toNat = k := by omega
    rw [e]
    (show WC _ _ _ _ _ _ _; first | refine WC_dec rfl (fun hc => ?_) (fun hc => ?_) | refine WC_cond rfl (fun hc => ?_) (fun hc => ?_))
    · rw [if_pos (by simp only [at0]; omega)] at he
      refine sgo ?_
      (first | refine fp1 (.inl rfl) rfl rfl ?_ | refine fp2 (.inl rfl) rfl rfl rfl ?_ | refine fp3 (.inl rfl) rfl rfl rfl rfl ?_ | refine fp0 (.inr rfl) rfl ?_ | refine fp0 (.inl rfl) rfl ?_ | refine fp1 (.inr rfl) rfl rfl ?_); refine ⟨?_, by (first | exact Frm.refl _ | assumption | (refine Frm.trans ?_ (by assumption); first | exact Frm.refl _ | assumption))⟩; (try simp only [realB, rv_true, Nat.reduceBEq, cond_true, cond_false, entG, real_lif, updGL])
      rw [← he]
      refine congrArg int ?_
      omega
    · rw [if_neg (by simp only [at0]; omega)] at he
      refine sgo ?_
      exact ⟨k, ⟨rfl, rfl, congrArg (fun n : Int => int (n - 1)) (by omega), trivial⟩, ⟨by omega, he, hfr⟩, by omega⟩
  · obtain rfl : x = 0 := by omega
    refine sgo ?_
    (first | refine fp1 (.inl rfl) rfl rfl ?_ | refine fp2 (.inl rfl) rfl rfl rfl ?_ | refine fp3 (.inl rfl) rfl rfl rfl rfl ?_ | refine fp0 (.inr rfl) rfl ?_ | refine fp0 (.inl rfl) rfl ?_ | refine fp1 (.inr rfl) rfl rfl ?_); refine ⟨?_, by (first | exact Frm.refl _ | assumption | (refine Frm.trans ?_ (by assumption); first | exact Frm.refl _ | assumption))⟩; (try simp only [realB, rv_true, Nat.reduceBEq, cond_true, cond_false, entG, real_lif, updGL])
    rw [← he]
    rfl
theorem last_ok (l : List UInt8) (c : Nat) (hb : l.length ≤ 4611686018427387904) (w : World) : PureC Try.prog 44 #[str l, byt c] w (int (lastR l c)) := by
  refine enter (l := [str l, byt c]) Try.func44 rfl Try.ntmps44 (by kernel_rfl) rfl ?_
  refine sgo ?_
  refine wlpure (last0_ok l c hb _) fun w1 hf1 => ?_
  refine sgo ?_
  (first | refine fp1 (.inl rfl) rfl rfl ?_ | refine fp2 (.inl rfl) rfl rfl rfl ?_ | refine fp3 (.inl rfl) rfl rfl rfl rfl ?_ | refine fp0 (.inr rfl) rfl ?_ | refine fp0 (.inl rfl) rfl ?_ | refine fp1 (.inr rfl) rfl rfl ?_); refine ⟨?_, by (first | exact Frm.refl _ | assumption | (refine Frm.trans ?_ (by assumption); first | exact Frm.refl _ | assumption))⟩; (try simp only [realB, rv_true, Nat.reduceBEq, cond_true, cond_false, entG, real_lif, updGL])
def parR (l : List UInt8) : List UInt8 := l.take (max (lastR l 47) 0).toNat
theorem parent_ok (l : List UInt8) (hb : l.length ≤ 4611686018427387904) (w : World) : PureC Try.prog 33 #[str l] w (str (parR l)) := by
  refine enter (l := [str l]) Try.func33 rfl Try.ntmps33 (by kernel_rfl) rfl ?_
  refine sgo ?_
  refine wlpure (last_ok l 47 hb _) fun w1 hf1 => ?_
  have hr := lastF_rng l 47 l.length
  unfold parR
  unfold lastR
  generalize lastF l 47 l.length = m at *
  refine sgo ?_
  refine wl ?_ (y_max rfl rfl)
  refine sgo ?_
  (first | refine fp1 (.inl rfl) rfl rfl ?_ | refine fp2 (.inl rfl) rfl rfl rfl ?_ | refine fp3 (.inl rfl) rfl rfl rfl rfl ?_ | refine fp0 (.inr rfl) rfl ?_ | refine fp0 (.inl rfl) rfl ?_ | refine fp1 (.inr rfl) rfl rfl ?_); refine ⟨?_, by (first | exact Frm.refl _ | assumption | (refine Frm.trans ?_ (by assumption); first | exact Frm.refl _ | assumption))⟩; (try simp only [realB, rv_true, Nat.reduceBEq, cond_true, cond_false, entG, real_lif, updGL])

def pfx (p l : List UInt8) : Bool := p.isPrefixOf l
/-- a segment's end -/
def segN (l : List UInt8) : Nat := 1 + upR (l.drop 1) [47]
def dotStep (l out : List UInt8) : List UInt8 × List UInt8 :=
  if pfx [46, 46, 47] l then (l.drop 3, out)
  else if pfx [46, 47] l then (l.drop 2, out)
  else if pfx [47, 46, 47] l then (l.drop 2, out)
  else if l = [47, 46] then ([47], out)
  else if pfx [47, 46, 46, 47] l then (l.drop 3, parR out)
  else if l = [47, 46, 46] then ([47], parR out)
  else if l = [46] ∨ l = [46, 46] then ([], out)
  else (l.drop (segN l), out ++ l.take (segN l))
def dotsF : Nat → List UInt8 → List UInt8 → List UInt8
  | 0, _, out => out
  | f + 1, l, out => if l = [] then out else dotsF f (dotStep l out).1 (dotStep l out).2
theorem pfx_len {p l : List UInt8} (h : pfx p l = true) : p.length ≤ l.length := (List.isPrefixOf_iff_prefix.1 h).length_le
theorem dotStep_lt (l out : List UInt8) (h : l ≠ []) : (dotStep l out).1.length < l.length := by
  have h0 : 0 < l.length := List.length_pos_iff.2 h
  unfold dotStep
  repeat' split
  all_goals rename_i h1
  all_goals (try have hp := pfx_len h1)
  all_goals (try simp only [List.length_cons, List.length_nil] at hp)
  all_goals (try simp only [List.length_drop, segN])
  all_goals (try omega)
  all_goals (try (subst h1; simp; done))
  all_goals (try (simp; omega))
theorem dotsF_more : ∀ (f f' : Nat) (l out : List UInt8), l.length ≤ f → l.length ≤ f' → dotsF f l out = dotsF f' l out
  | 0, 0, _, _, _, _ => rfl
  | 0, f' + 1, l, out, h, _ => by
    have : l = [] := List.eq_nil_of_length_eq_zero (by omega)
    simp [dotsF, this]
  | f + 1, 0, l, out, _, h => by
    have : l = [] := List.eq_nil_of_length_eq_zero (by omega)
    simp [dotsF, this]
  | f + 1, f' + 1, l, out, h, h' => by
    simp only [dotsF]
    split
    · rfl
    · rename_i hne
      have := dotStep_lt l out hne
      exact dotsF_more f f' _ _ (by omega) (by omega)
def dotsL (l out : List UInt8) : List UInt8 := dotsF l.length l out
theorem dotsL_nil (out : List UInt8) : dotsL [] out = out := rfl
theorem dotsL_step (l out : List UInt8) (h : l ≠ []) : dotsL l out = dotsL (dotStep l out).1 (dotStep l out).2 := by
  have h1 := dotStep_lt l out h
  unfold dotsL
  obtain ⟨f, hf⟩ : ∃ f, l.length = f + 1 := ⟨l.length - 1, by omega⟩
  rw [hf, dotsF, if_neg h]
  exact dotsF_more _ _ _ _ (by omega) (Nat.le_refl _)
theorem parR_len (l : List UInt8) : (parR l).length ≤ l.length := by simp only [parR, List.length_take]; omega
theorem dotStep_len (l out : List UInt8) : (dotStep l out).1.length + (dotStep l out).2.length ≤ l.length + out.length := by
  have h0 := parR_len out
  unfold dotStep
  repeat' split
  all_goals rename_i h1
  all_goals (try simp only [List.length_drop, List.length_append, List.length_take, List.length_nil])
  all_goals (try omega)
  all_goals (try (subst h1; simp; done))
  all_goals (try (subst h1; simp; omega))
end Go.Proofs.Ytffaoehhhdcjjaa

/-
  Package link: Dots, walked.
-/
set_option linter.unusedSimpArgs false
set_option linter.unusedVariables false
set_option linter.unnecessarySimpa false
namespace Go.Proofs.Ytffaoehhhdcjjaa
open Go Go.Sv Go.RowKit

set_option maxHeartbeats 2000000 in
theorem dots_ok (l0 : List UInt8) (hb : l0.length ≤ 1073741824) (w : World) : PureC Try.prog 14 #[str l0] w (str (dotsL (mendR l0) [])) := by
  refine enter (l := [str l0]) Try.func14 rfl Try.ntmps14 (by kernel_rfl) rfl ?_
  refine sgo ?_
  refine wlpure (mend_ok l0 hb _) fun w1 hf1 => ?_
  have hml := mendR_len l0
  generalize mendR l0 = t at *
  refine sgo ?_
  refine wcloop (X := List UInt8 × List UInt8) (fun x => [(0, str x.1), (3, str x.2)])
    (fun x wr => dotsL x.1 x.2 = dotsL t [] ∧ x.1.length + x.2.length ≤ t.length ∧ Frm w wr) (fun x => x.1.length) (t, []) ⟨rfl, rfl, trivial⟩ ⟨rfl, by simp, hf1⟩ ?_
  rintro ⟨l, o⟩ wr ρ ⟨he, hlen, hfr⟩
  dsimp only at he hlen ⊢
  refine sgo ?_
  (show WC _ _ _ _ _ _ _; first | refine WC_dec rfl (fun hc => ?_) (fun hc => ?_) | refine WC_cond rfl (fun hc => ?_) (fun hc => ?_))
  · have hne : l ≠ [] := by simpa using hc
    clear hc
    have h0 : 0 < l.length := List.length_pos_iff.2 hne
    have fin : ∀ l' o' w', dotStep l o = (l', o') → Frm w w' → (dotsL l' o' = dotsL t [] ∧ l'.length + o'.length ≤ t.length ∧ Frm w w') ∧ l'.length < l.length := by
      intro l' o' w' h hw'
      have h1 := dotsL_step l o hne
      have h2 := dotStep_lt l o hne
      have h3 := dotStep_len l o
      rw [h] at h1 h2 h3
      exact ⟨⟨by rw [← h1]; exact he, by dsimp only at h3; omega, hw'⟩, h2⟩
    clear he
    refine sgo ?_
    refine wlpure (hasPrefix_ok l [46, 46, 47] _) fun w2 hf2 => ?_
    replace hfr := hfr.trans hf2
    clear hf2
    cases g1 : pfx [46, 46, 47] l with
    | true =>
      have hl := pfx_len g1
      simp only [List.length_cons, List.length_nil] at hl
      have hds : dotStep l o = (l.drop 3, o) := by unfold dotStep; rw [if_pos g1]
      unfold pfx at g1
      rw [g1]
      refine sgo ?_
      exact ⟨(l.drop 3, o), ⟨rfl, rfl, trivial⟩, fin _ _ _ hds hfr⟩
    | false =>
    have g1' : [46, 46, 47].isPrefixOf l = false := g1
    rw [g1']
    refine sgo ?_
    refine wlpure (hasPrefix_ok l [46, 47] _) fun w3 hf3 => ?_
    replace hfr := hfr.trans hf3
    clear hf3
    cases g2 : pfx [46, 47] l with
    | true =>
      have hl := pfx_len g2
      simp only [List.length_cons, List.length_nil] at hl
      have hds : dotStep l o = (l.drop 2, o) := by unfold dotStep; simp only [g1, g2, if_true, Bool.false_eq_true, if_false]
      unfold pfx at g2
      rw [g2]
      refine sgo ?_
      exact ⟨(l.drop 2, o), ⟨rfl, rfl, trivial⟩, fin _ _ _ hds hfr⟩
    | false =>
    have g2' : [46, 47].isPrefixOf l = false := g2
    rw [g2']
    refine sgo ?_
    refine wlpure (hasPrefix_ok l [47, 46, 47] _) fun w4 hf4 => ?_
    replace hfr := hfr.trans hf4
    clear hf4
    cases g3 : pfx [47, 46, 47] l with
    | true =>
      have hl := pfx_len g3
      simp only [List.length_cons, List.length_nil] at hl
      have hds : dotStep l o = (l.drop 2, o) := by unfold dotStep; simp only [g1, g2, g3, if_true, Bool.false_eq_true, if_false]
      unfold pfx at g3
      rw [g3]
      refine sgo ?_
      exact ⟨(l.drop 2, o), ⟨rfl, rfl, trivial⟩, fin _ _ _ hds hfr⟩
    | false =>
    have g3' : [47, 46, 47].isPrefixOf l = false := g3
    rw [g3']
    refine sgo ?_
    (show WC _ _ _ _ _ _ _; first | refine WC_dec rfl (fun hc => ?_) (fun hc => ?_) | refine WC_cond rfl (fun hc => ?_) (fun hc => ?_))
    · have hds : dotStep l o = ([47], o) := by unfold dotStep; simp only [g1, g2, g3, if_true, Bool.false_eq_true, if_false]; rw [if_pos hc]
      refine sgo ?_
      exact ⟨([47], o), ⟨rfl, rfl, trivial⟩, fin _ _ _ hds hfr⟩
    have g4 := hc
    clear hc
    refine sgo ?_
    refine wlpure (hasPrefix_ok l [47, 46, 46, 47] _) fun w5 hf5 => ?_
    replace hfr := hfr.trans hf5
    clear hf5
    cases g5 : pfx [47, 46, 46, 47] l with
    | true =>
      have hl := pfx_len g5
      simp only [List.length_cons, List.length_nil] at hl
      have hds : dotStep l o = (l.drop 3, parR o) := by unfold dotStep; simp only [g1, g2, g3, g4, g5, if_true, Bool.false_eq_true, if_false]
      unfold pfx at g5
      rw [g5]
      refine sgo ?_
      refine wcdraw ?_
      refine qgo ?_
      refine qlcallp (fun w _ => parent_ok o (by omega) w) ?_
      refine qgo ?_
      refine QL_nil ?_
      intro wd hwd
      refine sgo ?_
      exact ⟨(l.drop 3, parR o), ⟨rfl, rfl, trivial⟩, fin _ _ _ hds (hfr.trans hwd)⟩
    | false =>
    have g5' : [47, 46, 46, 47].isPrefixOf l = false := g5
    rw [g5']
    refine sgo ?_
    (show WC _ _ _ _ _ _ _; first | refine WC_dec rfl (fun hc => ?_) (fun hc => ?_) | refine WC_cond rfl (fun hc => ?_) (fun hc => ?_))
    · have hds : dotStep l o = ([47], parR o) := by unfold dotStep; simp only [g1, g2, g3, g4, g5, if_true, Bool.false_eq_true, if_false]; rw [if_pos hc]
      refine sgo ?_
      refine wlpure (parent_ok o (by omega) _) fun w6 hf6 => ?_
      refine sgo ?_
      exact ⟨([47], parR o), ⟨rfl, rfl, trivial⟩, fin _ _ _ hds (hfr.trans hf6)⟩
    have g6 := hc
    clear hc
    refine sgo ?_
    (show WC _ _ _ _ _ _ _; first | refine WC_dec rfl (fun hc => ?_) (fun hc => ?_) | refine WC_cond rfl (fun hc => ?_) (fun hc => ?_))
    · have hds : dotStep l o = ([], o) := by
        unfold dotStep; simp only [g1, g2, g3, g4, g5, g6, if_true, Bool.false_eq_true, if_false]
        rw [if_pos (by simpa [pkb_or] using hc)]
      refine sgo ?_
      exact ⟨([], o), ⟨rfl, rfl, trivial⟩, fin _ _ _ hds hfr⟩
    have g7 : ¬ (l = [46] ∨ l = [46, 46]) := by simpa [pkb_or] using hc
    clear hc
    have hds : dotStep l o = (l.drop (segN l), o ++ l.take (segN l)) := by unfold dotStep; simp only [g1, g2, g3, g4, g5, g6, g7, if_true, Bool.false_eq_true, if_false]
    have hib := indexByte_up (l.drop 1) 47
    have hup := upR_le (l.drop 1) [47]
    have hnot := fun h : (47 : UInt8) ∉ l.drop 1 => up_not h
    have hdl : (l.drop 1).length = l.length - 1 := by simp
    unfold segN at hds
    refine sgo ?_
    refine wlpure (indexByte_ok (l.drop 1) 47 _) fun w6 hf6 => ?_
    rw [show UInt8.ofNat 47 = 47 from rfl, hib]
    replace hfr := hfr.trans hf6
    generalize upR (l.drop 1) [47] = m at *
    by_cases hm : (47 : UInt8) ∈ l.drop 1
    · rw [if_pos hm]
      clear hnot hib
      refine sgo ?_
      (show WC _ _ _ _ _ _ _; first | refine WC_dec rfl (fun hc => ?_) (fun hc => ?_) | refine WC_cond rfl (fun hc => ?_) (fun hc => ?_))
      · omega
      have e : ((m : Int) + 1).toNat = 1 + m := by omega
      refine sgo ?_
      exact ⟨(l.drop (1 + m), o ++ l.take (1 + m)), ⟨congrArg (fun n => str (List.drop n l)) e, congrArg (fun n => str (o ++ List.take n l)) e, trivial⟩, fin _ _ _ hds hfr⟩
    · have hmm := hnot hm
      rw [if_neg hm]
      clear hnot hib
      have e : ((l.length : Int) - 1 + 1).toNat = 1 + m := by omega
      refine sgo ?_
      exact ⟨(l.drop (1 + m), o ++ l.take (1 + m)), ⟨congrArg (fun n => str (List.drop n l)) e, congrArg (fun n => str (o ++ List.take n l)) e, trivial⟩, fin _ _ _ hds hfr⟩
  · have hne : l = [] := by simpa using hc
    subst hne
    rw [dotsL_nil] at he
    refine sgo ?_
    (first | refine fp1 (.inl rfl) rfl rfl ?_ | refine fp2 (.inl rfl) rfl rfl rfl ?_ | refine fp3 (.inl rfl) rfl rfl rfl rfl ?_ | refine fp0 (.inr rfl) rfl ?_ | refine fp0 (.inl rfl) rfl ?_ | refine fp1 (.inr rfl) rfl rfl ?_); refine ⟨?_, by (first | exact Frm.refl _ | assumption | (refine Frm.trans ?_ (by assumption); first | exact Frm.refl _ | assumption))⟩; (try simp only [realB, rv_true, Nat.reduceBEq, cond_true, cond_false, entG, real_lif, updGL])
    rw [he]
end Go.Proofs.Ytffaoehhhdcjjaa

/-
  Package sievelaw12: the document's examples.
-/
set_option linter.unusedSimpArgs false
set_option linter.unusedVariables false
set_option linter.unnecessarySimpa false
namespace Go.Proofs.Ytffaoehhhdcjjaa
open Go Go.Sv Go.RowKit

theorem aw1 : lowR ((stripR [32, 74, 97, 86, 97, 9, 115, 99, 114, 105, 112, 116, 58, 120]).take (schemeR (stripR [32, 74, 97, 86, 97, 9, 115, 99, 114, 105, 112, 116, 58, 120])).1) = [106, 97, 118, 97, 115, 99, 114, 105, 112, 116] := by decide +kernel
theorem aw2 : (schemeR (stripR [32, 74, 97, 86, 97, 9, 115, 99, 114, 105, 112, 116, 58, 120])).2 = true := by decide +kernel
theorem aw3 : encodeR [97, 32, 98, 37, 50, 103, 34, 195, 169] = [97, 37, 50, 48, 98, 37, 50, 53, 50, 103, 37, 50, 50, 37, 67, 51, 37, 65, 57] := by decide +kernel
theorem aw4 : dotsL (mendR [47, 97, 47, 98, 47, 99, 47, 46, 47, 46, 46, 47, 46, 46, 47, 103]) [] = [47, 97, 47, 103] := by decide +kernel
theorem awake_ok (w : World) : PureC Try.prog 9 #[] w (.bool true) := by
  refine enter (l := []) Try.func9 rfl Try.ntmps9 (by kernel_rfl) rfl ?_
  refine sgo ?_
  refine wlpure (scheme2_ok [32, 74, 97, 86, 97, 9, 115, 99, 114, 105, 112, 116, 58, 120] (by decide) _) fun w1 hf1 => ?_
  rw [aw1, aw2]
  refine sgo ?_
  refine wlcallgp (vals := [str [97, 32, 98, 37, 50, 103, 34, 195, 169]]) (fun _ => encode_ok [97, 32, 98, 37, 50, 103, 34, 195, 169] (by decide) _) fun w2 hf2 => ?_
  rw [aw3]
  have hf2' := hf1.trans hf2
  refine sgo ?_
  refine wlcallgp (vals := [str [47, 97, 47, 98, 47, 99, 47, 46, 47, 46, 46, 47, 46, 46, 47, 103]]) (fun _ => dots_ok [47, 97, 47, 98, 47, 99, 47, 46, 47, 46, 46, 47, 46, 46, 47, 103] (by decide) _) fun w3 hf3 => ?_
  rw [aw4]
  have hf3' := hf2'.trans hf3
  refine sgo ?_
  (first | refine fp1 (.inl rfl) rfl rfl ?_ | refine fp2 (.inl rfl) rfl rfl rfl ?_ | refine fp3 (.inl rfl) rfl rfl rfl rfl ?_ | refine fp0 (.inr rfl) rfl ?_ | refine fp0 (.inl rfl) rfl ?_ | refine fp1 (.inr rfl) rfl rfl ?_); refine ⟨?_, by (first | exact Frm.refl _ | assumption | (refine Frm.trans ?_ (by assumption); first | exact Frm.refl _ | assumption))⟩; (try simp only [realB, rv_true, Nat.reduceBEq, cond_true, cond_false, entG, real_lif, updGL])
  rfl
theorem num12_ok (k : Int) (w : World) : PureC Try.prog 8 #[int k] w (int k) := by
  refine enter (l := [int k]) Try.func8 rfl Try.ntmps8 (by kernel_rfl) rfl ?_
  refine sgo ?_
  (first | refine fp1 (.inl rfl) rfl rfl ?_ | refine fp2 (.inl rfl) rfl rfl rfl ?_ | refine fp3 (.inl rfl) rfl rfl rfl rfl ?_ | refine fp0 (.inr rfl) rfl ?_ | refine fp0 (.inl rfl) rfl ?_ | refine fp1 (.inr rfl) rfl rfl ?_); refine ⟨?_, by (first | exact Frm.refl _ | assumption | (refine Frm.trans ?_ (by assumption); first | exact Frm.refl _ | assumption))⟩; (try simp only [realB, rv_true, Nat.reduceBEq, cond_true, cond_false, entG, real_lif, updGL])
theorem linkNames_ok (w : World) : PureC Try.prog 3 #[] w (.bool true) := by
  refine enter (l := []) Try.func3 rfl Try.ntmps3 (by kernel_rfl) rfl ?_
  refine sgo ?_
  refine wlpure (num12_ok 120 _) fun w1 hf1 => ?_
  refine sgo ?_
  refine wlcallgp (vals := []) (fun _ => awake_ok _) (fun w2 hf2 => ?_) (ha := fun _ => rfl)
  have hf := hf1.trans hf2
  refine sgo ?_
  (first | refine fp1 (.inl rfl) rfl rfl ?_ | refine fp2 (.inl rfl) rfl rfl rfl ?_ | refine fp3 (.inl rfl) rfl rfl rfl rfl ?_ | refine fp0 (.inr rfl) rfl ?_ | refine fp0 (.inl rfl) rfl ?_ | refine fp1 (.inr rfl) rfl rfl ?_); refine ⟨?_, by (first | exact Frm.refl _ | assumption | (refine Frm.trans ?_ (by assumption); first | exact Frm.refl _ | assumption))⟩; (try simp only [realB, rv_true, Nat.reduceBEq, cond_true, cond_false, entG, real_lif, updGL])
  rfl
end Go.Proofs.Ytffaoehhhdcjjaa

/-
  Package sieveref12: Dots.
-/
set_option linter.unusedSimpArgs false
set_option linter.unusedVariables false
set_option linter.unnecessarySimpa false
namespace Go.Proofs.Ytffaoehhhdcjjaa
open Go Go.Sv Go.RowKit

theorem mem_at (sm : List UInt8) (n : Nat) (hn : n < 256) : UInt8.ofNat n ∈ sm ↔ ∃ k, k < sm.length ∧ at0 sm k = n := by
  constructor
  · intro h
    obtain ⟨k, hk, he⟩ := List.mem_iff_getElem.1 h
    refine ⟨k, hk, ?_⟩
    simp only [at0, List.getElem?_eq_getElem hk, Option.getD_some, he]
    rw [UInt8.toNat_ofNat_of_lt' (by simpa using hn)]
  · rintro ⟨k, hk, he⟩
    have : sm[k] = UInt8.ofNat n := by rw [← he]; simp [at0, hk]
    rw [← this]; exact List.getElem_mem hk
set_option maxHeartbeats 1000000 in
theorem upTo_ok (l sm : List UInt8) (hb : l.length ≤ 4611686018427387904) (hb2 : sm.length ≤ 4611686018427387904) (w : World) : PureC Try.prog 35 #[str l, str sm] w (int (upR l sm)) := by
  refine enter (l := [str l, str sm]) Try.func35 rfl Try.ntmps35 (by kernel_rfl) rfl ?_
  refine sgo ?_
  refine wcloop (X := Nat) (fun i => [(0, str l), (1, str sm), (8, int l.length), (9, int i)])
    (fun i wr => i ≤ l.length ∧ (∀ j, j < i → UInt8.ofNat (at0 l j) ∉ sm) ∧ Frm w wr) (fun i => l.length - i) 0 ⟨rfl, rfl, rfl, rfl, trivial⟩ ⟨by omega, by omega, Frm.refl _⟩ ?_
  rintro i wr ρ ⟨hi, hj, hfr⟩
  refine sgo ?_
  (show WC _ _ _ _ _ _ _; first | refine WC_dec rfl (fun hc => ?_) (fun hc => ?_) | refine WC_cond rfl (fun hc => ?_) (fun hc => ?_))
  · have hil : i < l.length := by omega
    have hmem := mem_at sm (at0 l i) (at_lt l i)
    refine sgo ?_
    refine wcloop (X := Nat) (fun k => [(0, str l), (1, str sm), (5, int i), (8, int l.length), (9, int i), (13, int sm.length), (14, int k)])
      (fun k wr => k ≤ sm.length ∧ (∀ j, j < k → at0 sm j ≠ at0 l i) ∧ Frm w wr) (fun k => sm.length - k) 0 ⟨rfl, rfl, rfl, rfl, rfl, rfl, rfl, trivial⟩ ⟨by omega, by omega, hfr⟩ ?_
    rintro k wr' ρ' ⟨hk, hkj, hfr'⟩
    refine sgo ?_
    (show WC _ _ _ _ _ _ _; first | refine WC_dec rfl (fun hc => ?_) (fun hc => ?_) | refine WC_cond rfl (fun hc => ?_) (fun hc => ?_))
    · have hks : k < sm.length := by omega
      refine sgo ?_
      refine wcdraw ?_
      refine qgo ?_
      refine QL_nil ?_
      intro wd hwd
      replace hfr' := hfr'.trans hwd
      clear hwd
      refine sgo ?_
      (show WC _ _ _ _ _ _ _; first | refine WC_dec rfl (fun hc => ?_) (fun hc => ?_) | refine WC_cond rfl (fun hc => ?_) (fun hc => ?_))
      · have hin : UInt8.ofNat (at0 l i) ∈ sm := hmem.2 ⟨k, hks, by simp only [at0]; omega⟩
        have hup := upR_at l sm i hil hj hin
        refine sgo ?_
        (first | refine fp1 (.inl rfl) rfl rfl ?_ | refine fp2 (.inl rfl) rfl rfl rfl ?_ | refine fp3 (.inl rfl) rfl rfl rfl rfl ?_ | refine fp0 (.inr rfl) rfl ?_ | refine fp0 (.inl rfl) rfl ?_ | refine fp1 (.inr rfl) rfl rfl ?_); refine ⟨?_, by (first | exact Frm.refl _ | assumption | (refine Frm.trans ?_ (by assumption); first | exact Frm.refl _ | assumption))⟩; (try simp only [realB, rv_true, Nat.reduceBEq, cond_true, cond_false, entG, real_lif, updGL])
        rw [hup]
      · refine sgo ?_
        refine ⟨k + 1, ⟨rfl, rfl, rfl, rfl, rfl, rfl, rfl, trivial⟩, ⟨by omega, ?_, hfr'⟩, by omega⟩
        intro j hj'
        rcases Nat.lt_or_ge j k with h | h
        · exact hkj j h
        · obtain rfl : j = k := by omega
          simp only [at0]
          omega
    · obtain rfl : k = sm.length := by omega
      refine sgo ?_
      refine ⟨i + 1, ⟨rfl, rfl, rfl, rfl, trivial⟩, ⟨by omega, ?_, hfr'⟩, by omega⟩
      intro j hj'
      rcases Nat.lt_or_ge j i with h | h
      · exact hj j h
      · obtain rfl : j = i := by omega
        intro hm
        obtain ⟨k, hk', he⟩ := hmem.1 hm
        exact hkj k hk' he
  · obtain rfl : i = l.length := by omega
    have hup := upR_all l sm hj
    refine sgo ?_
    (first | refine fp1 (.inl rfl) rfl rfl ?_ | refine fp2 (.inl rfl) rfl rfl rfl ?_ | refine fp3 (.inl rfl) rfl rfl rfl rfl ?_ | refine fp0 (.inr rfl) rfl ?_ | refine fp0 (.inl rfl) rfl ?_ | refine fp1 (.inr rfl) rfl rfl ?_); refine ⟨?_, by (first | exact Frm.refl _ | assumption | (refine Frm.trans ?_ (by assumption); first | exact Frm.refl _ | assumption))⟩; (try simp only [realB, rv_true, Nat.reduceBEq, cond_true, cond_false, entG, real_lif, updGL])
    rw [hup]
set_option maxHeartbeats 2000000 in
theorem refDots_ok (t : List UInt8) (hb : t.length ≤ 4611686018427387904) (w : World) : PureC Try.prog 15 #[str t] w (str (dotsL t [])) := by
  refine enter (l := [str t]) Try.func15 rfl Try.ntmps15 (by kernel_rfl) rfl ?_
  refine sgo ?_
  refine wcloop (X := List UInt8 × List UInt8) (fun x => [(0, str x.1), (3, str x.2)])
    (fun x wr => dotsL x.1 x.2 = dotsL t [] ∧ x.1.length + x.2.length ≤ t.length ∧ Frm w wr) (fun x => x.1.length) (t, []) ⟨rfl, rfl, trivial⟩ ⟨rfl, by simp, Frm.refl _⟩ ?_
  rintro ⟨l, o⟩ wr ρ ⟨he, hlen, hfr⟩
  dsimp only at he hlen ⊢
  refine sgo ?_
  (show WC _ _ _ _ _ _ _; first | refine WC_dec rfl (fun hc => ?_) (fun hc => ?_) | refine WC_cond rfl (fun hc => ?_) (fun hc => ?_))
  · have hne : l ≠ [] := by simpa using hc
    clear hc
    have h0 : 0 < l.length := List.length_pos_iff.2 hne
    have fin : ∀ l' o' w', dotStep l o = (l', o') → Frm w w' → (dotsL l' o' = dotsL t [] ∧ l'.length + o'.length ≤ t.length ∧ Frm w w') ∧ l'.length < l.length := by
      intro l' o' w' h hw'
      have h1 := dotsL_step l o hne
      have h2 := dotStep_lt l o hne
      have h3 := dotStep_len l o
      rw [h] at h1 h2 h3
      exact ⟨⟨by rw [← h1]; exact he, by dsimp only at h3; omega, hw'⟩, h2⟩
    clear he
    refine sgo ?_
    refine wlpure (begins_ok l [46, 46, 47] _) fun w2 hf2 => ?_
    replace hfr := hfr.trans hf2
    clear hf2
    cases g1 : pfx [46, 46, 47] l with
    | true =>
      have hl := pfx_len g1
      simp only [List.length_cons, List.length_nil] at hl
      have hds : dotStep l o = (l.drop 3, o) := by unfold dotStep; rw [if_pos g1]
      unfold pfx at g1
      rw [g1]
      refine sgo ?_
      exact ⟨(l.drop 3, o), ⟨rfl, rfl, trivial⟩, fin _ _ _ hds hfr⟩
    | false =>
    have g1' : [46, 46, 47].isPrefixOf l = false := g1
    rw [g1']
    refine sgo ?_
    refine wlpure (begins_ok l [46, 47] _) fun w3 hf3 => ?_
    replace hfr := hfr.trans hf3
    clear hf3
    cases g2 : pfx [46, 47] l with
    | true =>
      have hl := pfx_len g2
      simp only [List.length_cons, List.length_nil] at hl
      have hds : dotStep l o = (l.drop 2, o) := by unfold dotStep; simp only [g1, g2, if_true, Bool.false_eq_true, if_false]
      unfold pfx at g2
      rw [g2]
      refine sgo ?_
      exact ⟨(l.drop 2, o), ⟨rfl, rfl, trivial⟩, fin _ _ _ hds hfr⟩
    | false =>
    have g2' : [46, 47].isPrefixOf l = false := g2
    rw [g2']
    refine sgo ?_
    refine wlpure (begins_ok l [47, 46, 47] _) fun w4 hf4 => ?_
    replace hfr := hfr.trans hf4
    clear hf4
    cases g3 : pfx [47, 46, 47] l with
    | true =>
      have hl := pfx_len g3
      simp only [List.length_cons, List.length_nil] at hl
      have hds : dotStep l o = (l.drop 2, o) := by unfold dotStep; simp only [g1, g2, g3, if_true, Bool.false_eq_true, if_false]
      unfold pfx at g3
      rw [g3]
      refine sgo ?_
      exact ⟨(l.drop 2, o), ⟨rfl, rfl, trivial⟩, fin _ _ _ hds hfr⟩
    | false =>
    have g3' : [47, 46, 47].isPrefixOf l = false := g3
    rw [g3']
    refine sgo ?_
    (show WC _ _ _ _ _ _ _; first | refine WC_dec rfl (fun hc => ?_) (fun hc => ?_) | refine WC_cond rfl (fun hc => ?_) (fun hc => ?_))
    · have hds : dotStep l o = ([47], o) := by unfold dotStep; simp only [g1, g2, g3, if_true, Bool.false_eq_true, if_false]; rw [if_pos hc]
      refine sgo ?_
      exact ⟨([47], o), ⟨rfl, rfl, trivial⟩, fin _ _ _ hds hfr⟩
    have g4 := hc
    clear hc
    refine sgo ?_
    refine wlpure (begins_ok l [47, 46, 46, 47] _) fun w5 hf5 => ?_
    replace hfr := hfr.trans hf5
    clear hf5
    have e5 : [47, 46, 46, 47].isPrefixOf l = pfx [47, 46, 46, 47] l := rfl
    rw [e5]
    refine sgo ?_
    (show WC _ _ _ _ _ _ _; first | refine WC_dec rfl (fun hc => ?_) (fun hc => ?_) | refine WC_cond rfl (fun hc => ?_) (fun hc => ?_))
    · have hcc : pfx [47, 46, 46, 47] l = true ∨ l = [47, 46, 46] := by simpa [pkb_or] using hc
      clear hc
      obtain ⟨l', hl', hds⟩ : ∃ l', (l' = if l = [47, 46, 46] then [47] else l.drop 3) ∧ dotStep l o = (l', parR o) := by
        refine ⟨_, rfl, ?_⟩
        unfold dotStep
        simp only [g1, g2, g3, g4, Bool.false_eq_true, if_false]
        rcases hcc with h | h
        · have hl := pfx_len h
          have hne' : l ≠ [47, 46, 46] := by intro h'; rw [h'] at hl; simp at hl
          rw [if_pos h, if_neg hne']
        · rw [if_neg (by rw [h]; decide), if_pos h, if_pos h]
      have hl3 : 3 ≤ l.length := by
        rcases hcc with h | h
        · have := pfx_len h; simp only [List.length_cons, List.length_nil] at this; omega
        · rw [h]; decide
      refine sgo ?_
      refine wcutn (X := Unit) (fun _ => [(0, str l'), (3, str o)]) (fun _ w' => Frm w w') ?_ ?_
      · (show WC _ _ _ _ _ _ _; first | refine WC_dec rfl (fun hc => ?_) (fun hc => ?_) | refine WC_cond rfl (fun hc => ?_) (fun hc => ?_))
        · rw [if_pos hc] at hl'
          subst hl'
          refine sgo ?_
          exact ⟨(), ⟨rfl, rfl, trivial⟩, hfr⟩
        · rw [if_neg hc] at hl'
          subst hl'
          refine sgo ?_
          exact ⟨(), ⟨rfl, rfl, trivial⟩, hfr⟩
      rintro ⟨⟩ w6 ρ6 hf6
      refine sgo ?_
      refine wcloop (X := Nat) (fun n => [(0, str l'), (3, str o), (4, int n)]) (fun n wr => n ≤ o.length ∧ lastF o 47 n = lastR o 47 ∧ Frm w wr) (fun n => n) o.length ⟨rfl, rfl, rfl, trivial⟩ ⟨Nat.le_refl _, rfl, hf6⟩ ?_
      rintro n w7 ρ7 ⟨hn, hlf, hf7⟩
      rcases n with _ | k
      · have hpr : parR o = o.take 0 := by unfold parR; rw [← hlf]; rfl
        rw [hpr] at hds
        refine sgo ?_
        (show WC _ _ _ _ _ _ _; first | refine WC_dec rfl (fun hc => ?_) (fun hc => ?_) | refine WC_cond rfl (fun hc => ?_) (fun hc => ?_))
        · exfalso
          simp [pkb_and] at hc
        · refine sgo ?_
          exact ⟨(l', o.take 0), ⟨rfl, rfl, trivial⟩, fin _ _ _ hds hf7⟩
      · simp only [lastF] at hlf
        have e : (((k + 1 : Nat) : Int) - 1).toNat = k := by omega
        refine sgo ?_
        rw [e]
        (show WC _ _ _ _ _ _ _; first | refine WC_dec rfl (fun hc => ?_) (fun hc => ?_) | refine WC_cond rfl (fun hc => ?_) (fun hc => ?_))
        · have hc' : ¬ at0 o k = 47 := by simp only [pkb_and, Bool.and_eq_true, decide_eq_true_eq] at hc; simp only [at0]; omega
          rw [if_neg hc'] at hlf
          have ek : ((k + 1 : Nat) : Int) - 1 = k := by omega
          refine sgo ?_
          rw [ek]
          exact ⟨k, ⟨rfl, rfl, congrArg int (by omega), trivial⟩, ⟨by omega, hlf, hf7⟩, by omega⟩
        · have hc' : at0 o k = 47 := by
            have h0 : (0 : Int) < ((k + 1 : Nat) : Int) := by omega
            simp only [pkb_and, h0, decide_true, Bool.true_and, decide_eq_false_iff_not, ne_eq, Decidable.not_not] at hc; simp only [at0]; omega
          rw [if_pos hc'] at hlf
          have hmx : (max (k : Int) 0).toNat = k := by omega
          have hpr : parR o = o.take k := by unfold parR; rw [← hlf, hmx]
          rw [hpr] at hds
          have h0 : (0 : Int) < ((k + 1 : Nat) : Int) := by omega
          clear hc hc'
          refine sgo ?_
          (show WC _ _ _ _ _ _ _; first | refine WC_dec rfl (fun hc => ?_) (fun hc => ?_) | refine WC_cond rfl (fun hc => ?_) (fun hc => ?_))
          · refine sgo ?_
            exact ⟨(l', o.take k), ⟨rfl, congrArg (fun n => str (o.take n)) e, trivial⟩, fin _ _ _ hds hf7⟩
          · exact absurd h0 (by simpa using hc)
    have hcc : pfx [47, 46, 46, 47] l = false ∧ ¬ l = [47, 46, 46] := by simpa [pkb_or] using hc
    clear hc
    obtain ⟨g5, g6⟩ := hcc
    refine sgo ?_
    (show WC _ _ _ _ _ _ _; first | refine WC_dec rfl (fun hc => ?_) (fun hc => ?_) | refine WC_cond rfl (fun hc => ?_) (fun hc => ?_))
    · have hds : dotStep l o = ([], o) := by
        unfold dotStep; simp only [g1, g2, g3, g4, g5, g6, if_true, Bool.false_eq_true, if_false]
        rw [if_pos (by simpa [pkb_or] using hc)]
      refine sgo ?_
      exact ⟨([], o), ⟨rfl, rfl, trivial⟩, fin _ _ _ hds hfr⟩
    have g7 : ¬ (l = [46] ∨ l = [46, 46]) := by simpa [pkb_or] using hc
    clear hc
    have hds : dotStep l o = (l.drop (segN l), o ++ l.take (segN l)) := by unfold dotStep; simp only [g1, g2, g3, g4, g5, g6, g7, if_true, Bool.false_eq_true, if_false]
    have hup := upR_le (l.drop 1) [47]
    have hdl : (l.drop 1).length = l.length - 1 := by simp
    have hl0 : at0 l 0 ≠ 47 → upR l [47] = upR (l.drop 1) [47] + 1 := by
      intro h
      cases l with
      | nil => exact absurd rfl hne
      | cons c l =>
        rw [upR_cons, if_neg]
        · rfl
        · intro hm
          simp only [List.mem_singleton] at hm
          subst hm
          exact h rfl
    unfold segN at hds
    refine sgo ?_
    refine wlpure (upTo_ok (l.drop 1) [47] (by omega) (by decide) _) fun w6 hf6 => ?_
    replace hfr := hfr.trans hf6
    have hz : at0 l 0 < 256 := at_lt l 0
    generalize upR (l.drop 1) [47] = m at *
    have e : (1 + (m : Int)).toNat = 1 + m := by omega
    refine sgo ?_
    (show WC _ _ _ _ _ _ _; first | refine WC_dec rfl (fun hc => ?_) (fun hc => ?_) | refine WC_cond rfl (fun hc => ?_) (fun hc => ?_))
    · have hc2 : ((at0 l 0 : Nat) : Int) ≠ 47 := hc
      have h47 := hl0 (by omega)
      refine sgo ?_
      refine wlpure (upTo_ok l [47] (by omega) (by decide) _) fun w7 hf7 => ?_
      rw [h47]
      refine sgo ?_
      exact ⟨(l.drop (1 + m), o ++ l.take (1 + m)), ⟨congrArg (fun n => str (List.drop n l)) (Nat.add_comm _ _), congrArg (fun n => str (o ++ List.take n l)) (Nat.add_comm _ _), trivial⟩, fin _ _ _ hds (hfr.trans hf7)⟩
    · refine sgo ?_
      exact ⟨(l.drop (1 + m), o ++ l.take (1 + m)), ⟨congrArg (fun n => str (List.drop n l)) e, congrArg (fun n => str (o ++ List.take n l)) e, trivial⟩, fin _ _ _ hds hfr⟩
  · have hne : l = [] := by simpa using hc
    subst hne
    rw [dotsL_nil] at he
    refine sgo ?_
    (first | refine fp1 (.inl rfl) rfl rfl ?_ | refine fp2 (.inl rfl) rfl rfl rfl ?_ | refine fp3 (.inl rfl) rfl rfl rfl rfl ?_ | refine fp0 (.inr rfl) rfl ?_ | refine fp0 (.inl rfl) rfl ?_ | refine fp1 (.inr rfl) rfl rfl ?_); refine ⟨?_, by (first | exact Frm.refl _ | assumption | (refine Frm.trans ?_ (by assumption); first | exact Frm.refl _ | assumption))⟩; (try simp only [realB, rv_true, Nat.reduceBEq, cond_true, cond_false, entG, real_lif, updGL])
    rw [he]
end Go.Proofs.Ytffaoehhhdcjjaa

/-
  Structs of texts, numbers and bools compared.
-/
set_option linter.unusedSimpArgs false
set_option linter.unusedVariables false
set_option linter.unnecessarySimpa false
namespace Go.Sv
open Go Go.RowKit
def plainB (P : Program) : List Field → Nat → List TypeDesc → Bool
  | [], _, [] => true
  | f :: fs, k, d :: ds => (f.name != "_") && (f.offset == k) && (match P.underlying f.type, d with
    | some .string, .string => true
    | some .bool, .bool => true
    | some (.int a), .int b => kEq a b
    | _, _ => false) && plainB P fs (k + 1) ds
  | _, _, _ => false
/-- a struct whose fields are one cell each: texts, bools, numbers -/
class PlainS (P : Program) (t : TypeId) (ds : outParam (List TypeDesc)) : Prop where
  ok : ∃ fs, P.underlying t = some (.struct fs) ∧ plainB P fs.toList 0 ds = true ∧ P.stoodInHeld t = false ∧ P.eqGuardType P.depth t = false
/-- are two structs the same? -/
def eqL : List TypeDesc → List Value → List Value → Option Bool
  | [], [], [] => some true
  | .string :: ds, .string ⟨⟨a⟩⟩ :: xs, .string ⟨⟨b⟩⟩ :: ys => match eqL ds xs ys with | some r => some (decide (a = b) && r) | none => none
  | .bool :: ds, .bool a :: xs, .bool b :: ys => match eqL ds xs ys with | some r => some (decide (a = b) && r) | none => none
  | .int k :: ds, .int k1 a :: xs, .int k2 b :: ys => match kEq k k1, kEq k k2, eqL ds xs ys with | true, true, some r => some (decide (a = b) && r) | _, _, _ => none
  | _, _, _ => none
section
variable {P : Program} {w : World}
theorem run_part {t : TypeId} {d : TypeDesc} (hu : P.underlying t = some d) (hd : (match d with | .struct _ | .array _ _ => true | _ => false) = false) {cs : Array Value} {off : Nat} {v : Value} (hv : cs[off]? = some v) : (part t cs off).run P w = .ok v w := by
  have hi : (isAgg t).run P w = .ok false w := by
    simp only [isAgg, underlying, Sem.run_bind, run_program, Result.andThen_ok, hu, Sem.run_pure]
    rw [← hd]
    cases d <;> rfl
  simp [part, hi, hv]
theorem str_beq (a b : List UInt8) : ((ByteArray.mk ⟨a⟩).toList == (ByteArray.mk ⟨b⟩).toList) = decide (a = b) := by
  rw [ByteArray.toList_eq, ByteArray.toList_eq]
  exact lbeq a b
theorem eqFields_plain (d : Nat) (X Y : Array Value) : ∀ (fs : List Field) (k : Nat) (ds : List TypeDesc) (xs ys : List Value) (r : Bool), plainB P fs k ds = true → X.toList.drop k = xs → Y.toList.drop k = ys → eqL ds xs ys = some r →
    (Op.eqFields (d + 1) X Y fs).run P w = .ok r w := by
  intro fs
  induction fs with
  | nil =>
    intro k ds xs ys r hp hX hY he
    cases ds with
    | nil =>
      cases xs <;> cases ys <;> simp [eqL] at he
      subst he; rfl
    | cons d ds => simp [plainB] at hp
  | cons f fs ih =>
    intro k ds xs ys r hp hX hY he
    cases ds with
    | nil => simp [plainB] at hp
    | cons d0 ds =>
      simp only [plainB, Bool.and_eq_true] at hp
      obtain ⟨⟨⟨hn, ho⟩, ht⟩, hp⟩ := hp
      have hn' : f.name ≠ "_" := by simpa using hn
      have ho' : f.offset = k := by simpa using ho
      have tailX : ∀ v l, xs = v :: l → X[k]? = some v ∧ X.toList.drop (k + 1) = l := by
        intro v l h
        rw [h] at hX
        have h1 : X.toList[k]? = some v := by
          have := congrArg (·[0]?) hX
          simpa using this
        refine ⟨by simpa using h1, ?_⟩
        have := congrArg (List.drop 1) hX
        simpa [Nat.add_comm] using this
      have tailY : ∀ v l, ys = v :: l → Y[k]? = some v ∧ Y.toList.drop (k + 1) = l := by
        intro v l h
        rw [h] at hY
        have h1 : Y.toList[k]? = some v := by
          have := congrArg (·[0]?) hY
          simpa using this
        refine ⟨by simpa using h1, ?_⟩
        have := congrArg (List.drop 1) hY
        simpa [Nat.add_comm] using this
      simp only [Op.eqFields, if_pos hn', ho']
      unfold eqL at he
      split at he
      · contradiction
      · rename_i ds' a xs' b ys' hq
        injection hq with q1 q2
        subst q1 q2
        obtain ⟨x1, x2⟩ := tailX _ _ rfl
        obtain ⟨y1, y2⟩ := tailY _ _ rfl
        have hu : P.underlying f.type = some .string := by
          revert ht
          cases P.underlying f.type with
          | none => intro h; cases h
          | some u => cases u <;> intro h <;> first | rfl | cases h
        split at he
        · rename_i r' hr'
          obtain rfl := Option.some.inj he
          have := ih (k + 1) _ xs' ys' r' hp x2 y2 hr'
          simp only [Sem.run_bind, run_part hu rfl x1, run_part hu rfl y1, Result.andThen_ok, run_equalIn_string w d f.type _ _ hu, str_beq]
          cases decide (a = b) <;> simp [this]
        · cases he
      · rename_i ds' a xs' b ys' hq
        injection hq with q1 q2
        subst q1 q2
        obtain ⟨x1, x2⟩ := tailX _ _ rfl
        obtain ⟨y1, y2⟩ := tailY _ _ rfl
        have hu : P.underlying f.type = some .bool := by
          revert ht
          cases P.underlying f.type with
          | none => intro h; cases h
          | some u => cases u <;> intro h <;> first | rfl | cases h
        split at he
        · rename_i r' hr'
          obtain rfl := Option.some.inj he
          have := ih (k + 1) _ xs' ys' r' hp x2 y2 hr'
          have hbb : (a == b) = decide (a = b) := by cases a <;> cases b <;> rfl
          simp only [Sem.run_bind, run_part hu rfl x1, run_part hu rfl y1, Result.andThen_ok, run_equalIn_bool' w d f.type _ _ hu, hbb]
          cases decide (a = b) <;> simp [this]
        · cases he
      · rename_i kk ds' k1 a xs' k2 b ys' hq
        injection hq with q1 q2
        subst q1 q2
        obtain ⟨x1, x2⟩ := tailX _ _ rfl
        obtain ⟨y1, y2⟩ := tailY _ _ rfl
        split at he
        · rename_i r' e1 e2 hr'
          obtain rfl := Option.some.inj he
          obtain rfl := kEq_eq e1
          obtain rfl := kEq_eq e2
          have hu : P.underlying f.type = some (.int kk) := by
            revert ht
            cases P.underlying f.type with
            | none => intro h; cases h
            | some u => cases u <;> intro h <;> first | (rw [kEq_eq h]) | cases h
          have := ih (k + 1) _ xs' ys' r' hp x2 y2 hr'
          have hbb : (a == b) = decide (a = b) := by by_cases e : a = b <;> simp [e]
          simp only [Sem.run_bind, run_part hu rfl x1, run_part hu rfl y1, Result.andThen_ok, run_equalIn_int w d f.type _ _ _ _ hu, hbb]
          cases decide (a = b) <;> simp [this]
        · cases he
      · cases he
variable {σ : Env} {d : Option Tmp} {ty t t' : TypeId} {pos : String} {af : Array Edge} {g : Option (Nat × Bool)} {x y : Operand} {ds : List TypeDesc} {xs ys : List Value} {r : Bool}
theorem run_eqS [h : PlainS P t ds] (he : eqL ds xs ys = some r) (k : Nat) : (Op.equalIn (k + 2) t (.agg ⟨xs⟩) (.agg ⟨ys⟩)).run P w = .ok r w := by
  obtain ⟨fs, h1, h2, h3, _⟩ := h.ok
  have hf : P.fieldsOf t = fs := by simp [Program.fieldsOf, h1]
  rw [run_equalIn_struct w (k + 1) t _ _ (by rw [hf]; exact h1) h3, hf]
  exact eqFields_plain k ⟨xs⟩ ⟨ys⟩ fs.toList 0 ds xs ys r h2 rfl rfl he
theorem y_aeql [h : PlainS P t ds] (hx : evl σ x = .agg ⟨xs⟩) (hy : evl σ y = .agg ⟨ys⟩) (he : eqL ds xs ys = some r) : Y P σ ⟨d, .binOp .eql t x y t', ty, pos, af, g⟩ w (.bool r) w := by
  obtain ⟨fs, h1, h2, h3, h4⟩ := h.ok
  refine Y.val ?_
  simp only [execOp, hx, hy, Sem.run_bind, run_eqGuard_agg w .eql t x y _ _ h4, Result.andThen_ok, run_eql_struct]
  rw [show (10000 : Nat) = 9998 + 2 from rfl, run_eqS he]
  rfl
theorem y_aneq [h : PlainS P t ds] (hx : evl σ x = .agg ⟨xs⟩) (hy : evl σ y = .agg ⟨ys⟩) (he : eqL ds xs ys = some r) : Y P σ ⟨d, .binOp .neq t x y t', ty, pos, af, g⟩ w (.bool (!r)) w := by
  obtain ⟨fs, h1, h2, h3, h4⟩ := h.ok
  refine Y.val ?_
  simp only [execOp, hx, hy, Sem.run_bind, run_eqGuard_agg w .neq t x y _ _ h4, Result.andThen_ok, run_neq_struct]
  rw [show (10000 : Nat) = 9998 + 2 from rfl, run_eqS he]
  rfl
end
end Go.Sv

/- This seat's plain structs as instances (made by a program of ours). -/
namespace Go.Proofs.Ytffaoehhhdcjjaa
open Go Go.Sv
instance : PlainS Try.prog 28 [.string, .string, .string, .string, .string, .bool, .bool, .bool, .bool] := ⟨_, Try.underlying28, by kernel_rfl, by kernel_rfl, by kernel_rfl⟩
instance : PlainS Try.prog 29 [.string, .string, .string, .string, .string, .bool, .bool, .bool, .bool] := ⟨_, Try.underlying29, by kernel_rfl, by kernel_rfl, by kernel_rfl⟩
instance : PlainS Try.prog 30 [.string, .string, .string, .string, .string, .bool, .bool, .bool, .bool] := ⟨_, Try.underlying30, by kernel_rfl, by kernel_rfl, by kernel_rfl⟩
instance : PlainS Try.prog 66 [.int .i32, .int .i64, .int .i64, .bool] := ⟨_, Try.underlying66, by kernel_rfl, by kernel_rfl, by kernel_rfl⟩
instance : PlainS Try.prog 67 [.int .i32, .int .i64, .int .i64, .bool] := ⟨_, Try.underlying67, by kernel_rfl, by kernel_rfl, by kernel_rfl⟩
end Go.Proofs.Ytffaoehhhdcjjaa

/-
  Records of links; the parts mended.
-/
set_option linter.unusedSimpArgs false
set_option linter.unusedVariables false
set_option linter.unnecessarySimpa false
namespace Go.Proofs.Ytffaoehhhdcjjaa
open Go Go.Sv Go.RowKit

structure Lnk where
  sc : List UInt8
  ho : List UInt8
  pa : List UInt8
  qu : List UInt8
  fr : List UInt8
  hs : Bool
  hh : Bool
  hq : Bool
  hf : Bool
abbrev Lnk.cells (l : Lnk) : List Value := [str l.sc, str l.ho, str l.pa, str l.qu, str l.fr, .bool l.hs, .bool l.hh, .bool l.hq, .bool l.hf]
abbrev Lnk.v (l : Lnk) : Value := .agg ⟨l.cells⟩
def Lnk.sm (l : Lnk) (n : Nat) : Prop := l.sc.length ≤ n ∧ l.ho.length ≤ n ∧ l.pa.length ≤ n ∧ l.qu.length ≤ n ∧ l.fr.length ≤ n
abbrev Lnk.mend (l : Lnk) : Lnk := ⟨mendR l.sc, mendR l.ho, mendR l.pa, mendR l.qu, mendR l.fr, l.hs, l.hh, l.hq, l.hf⟩
abbrev lz : Lnk := ⟨[], [], [], [], [], false, false, false, false⟩
theorem Lnk.mend_sm {l : Lnk} {n : Nat} (h : l.sm n) : l.mend.sm (4 * n) := by
  have h1 := mendR_len l.sc
  have h2 := mendR_len l.ho
  have h3 := mendR_len l.pa
  have h4 := mendR_len l.qu
  have h5 := mendR_len l.fr
  unfold Lnk.sm Lnk.mend at *
  dsimp only
  omega
theorem Lnk.mend_mend (l : Lnk) : l.mend.mend = l.mend := by simp only [Lnk.mend, Go.Proofs.Ytffaoehhhdcjjaa.mend_mend]
/-! ## fields that are taken over, each or not yet -/
abbrev Lnk.upS (b t : Lnk) (p q : Bool) : Lnk := ⟨bif p then b.sc else t.sc, t.ho, t.pa, t.qu, t.fr, bif q then b.hs else t.hs, t.hh, t.hq, t.hf⟩
abbrev Lnk.upH (b t : Lnk) (p q : Bool) : Lnk := ⟨t.sc, bif p then b.ho else t.ho, t.pa, t.qu, t.fr, t.hs, bif q then b.hh else t.hh, t.hq, t.hf⟩
abbrev Lnk.upQ (b t : Lnk) (p q : Bool) : Lnk := ⟨t.sc, t.ho, t.pa, bif p then b.qu else t.qu, t.fr, t.hs, t.hh, bif q then b.hq else t.hq, t.hf⟩
abbrev Lnk.upF (b t : Lnk) (p q : Bool) : Lnk := ⟨t.sc, t.ho, t.pa, t.qu, bif p then b.fr else t.fr, t.hs, t.hh, t.hq, bif q then b.hf else t.hf⟩

set_option maxHeartbeats 1000000 in
theorem to_ok (l : Lnk) (w : World) : PureC Try.prog 18 #[l.v] w l.v := by
  refine enter (l := [l.v]) Try.func18 rfl Try.ntmps18 (by kernel_rfl) rfl ?_
  refine sgo ?_
  refine wlbox (hx := rfl) fun b1 w1 hb1 ho1 hf1 => ?_
  refine wlalloc fun b2 w2 hb2 ho2 hf2 => ?_
  replace ho1 : Own w1 b1 l.cells := ho1
  have ho1' := ho1.frm hf2
  have hb2' := hf1.size
  refine sgo ?_
  refine wlbuild (cells := l.cells) ?_
  refine sgo ?_
  refine wlstorea0 (vs := l.cells) ho2 (fun w3 ho3 hl3 => ?_) (hx := rfl) (hy := rfl)
  refine sgo ?_
  refine fpc (.inl rfl) rfl rfl rfl ho3 ⟨rfl, (hf1.trans hf2).step hl3 (by have := hf1.size; have := hb2; intro x hx; simp at hx; omega)⟩

def mdC (l : Lnk) (p q r : Bool) : List Value := [str (bif p then mendR l.sc else l.sc), str (bif q then mendR l.ho else l.ho), str (bif r then mendR l.pa else l.pa), str l.qu, str l.fr, .bool l.hs, .bool l.hh, .bool l.hq, .bool l.hf]
def mdD (l : Lnk) (p q : Bool) : List Value := [str (mendR l.sc), str (mendR l.ho), str (mendR l.pa), str (bif p then mendR l.qu else l.qu), str (bif q then mendR l.fr else l.fr), .bool l.hs, .bool l.hh, .bool l.hq, .bool l.hf]
set_option maxHeartbeats 1000000 in
theorem refMended_ok (l : Lnk) (hb : l.sm 16777216) (w : World) : PureC Try.prog 20 #[l.v] w l.mend.v := by
  obtain ⟨g1, g2, g3, g4, g5⟩ := hb
  refine enter (l := [l.v]) Try.func20 rfl Try.ntmps20 (by kernel_rfl) rfl ?_
  refine sgo ?_
  refine wlbox (hx := rfl) fun b1 w1 hb1 ho1 hf1 => ?_
  refine wlalloc fun b2 w2 hb2 ho2 hf2 => ?_
  have ho1' : Own w1 b1 l.cells := ho1
  replace ho1 := ho1'.frm hf2
  have hf02 := hf1.trans hf2
  have hb2' := hf1.size
  have hlt := ho1'.lt
  have hne : b2 ≠ b1 := by omega
  clear ho1'
  refine sgo ?_
  refine wcdraws (fun L w' => Le [b1] w2 w' ∧ Own w' b1 (mdC l (L 10) (L 12) (L 14))) (fun wd hwd => ⟨hwd.le, ho1.frm hwd⟩) ?_
  (repeat (first | refine qs_fld ?_ | refine qsp ?_ | refine qs_slc ?_ | refine qs_bin ?_ | refine qs_idx ?_ | refine qs_len ?_ | refine qs_cnv ?_ | refine qs_idxa ?_ | refine qs_nilc ?_ | refine qs_una ?_)); refine qs_load (i := 0) (fun L => mdC l (L 10) (L 12) (L 14)) (v := str l.sc) ?_ (fun L w h => (h.2).sg) (fun L hu => by have h := hu.ahead 10 _ rfl rfl; simp [mdC, h]); (repeat (first | refine qs_fld ?_ | refine qsp ?_ | refine qs_slc ?_ | refine qs_bin ?_ | refine qs_idx ?_ | refine qs_len ?_ | refine qs_cnv ?_ | refine qs_idxa ?_ | refine qs_nilc ?_ | refine qs_una ?_))
  refine qs_call (v := str (mendR l.sc)) (fun L w hu hs => refMend_ok l.sc (by omega) w) (fun L w w' h hf => ⟨h.1.trans hf.le, h.2.frm hf⟩) ?_; (repeat (first | refine qs_fld ?_ | refine qsp ?_ | refine qs_slc ?_ | refine qs_bin ?_ | refine qs_idx ?_ | refine qs_len ?_ | refine qs_cnv ?_ | refine qs_idxa ?_ | refine qs_nilc ?_ | refine qs_una ?_))
  (repeat (first | refine qs_fld ?_ | refine qsp ?_ | refine qs_slc ?_ | refine qs_bin ?_ | refine qs_idx ?_ | refine qs_len ?_ | refine qs_cnv ?_ | refine qs_idxa ?_ | refine qs_nilc ?_ | refine qs_una ?_)); refine qs_load (i := 1) (fun L => mdC l (L 10) (L 12) (L 14)) (v := str l.ho) ?_ (fun L w h => (h.2).sg) (fun L hu => by have h := hu.ahead 12 _ rfl rfl; simp [mdC, h]); (repeat (first | refine qs_fld ?_ | refine qsp ?_ | refine qs_slc ?_ | refine qs_bin ?_ | refine qs_idx ?_ | refine qs_len ?_ | refine qs_cnv ?_ | refine qs_idxa ?_ | refine qs_nilc ?_ | refine qs_una ?_))
  refine qs_call (v := str (mendR l.ho)) (fun L w hu hs => refMend_ok l.ho (by omega) w) (fun L w w' h hf => ⟨h.1.trans hf.le, h.2.frm hf⟩) ?_; (repeat (first | refine qs_fld ?_ | refine qsp ?_ | refine qs_slc ?_ | refine qs_bin ?_ | refine qs_idx ?_ | refine qs_len ?_ | refine qs_cnv ?_ | refine qs_idxa ?_ | refine qs_nilc ?_ | refine qs_una ?_))
  (repeat (first | refine qs_fld ?_ | refine qsp ?_ | refine qs_slc ?_ | refine qs_bin ?_ | refine qs_idx ?_ | refine qs_len ?_ | refine qs_cnv ?_ | refine qs_idxa ?_ | refine qs_nilc ?_ | refine qs_una ?_)); refine qs_load (i := 2) (fun L => mdC l (L 10) (L 12) (L 14)) (v := str l.pa) ?_ (fun L w h => (h.2).sg) (fun L hu => by have h := hu.ahead 14 _ rfl rfl; simp [mdC, h]); (repeat (first | refine qs_fld ?_ | refine qsp ?_ | refine qs_slc ?_ | refine qs_bin ?_ | refine qs_idx ?_ | refine qs_len ?_ | refine qs_cnv ?_ | refine qs_idxa ?_ | refine qs_nilc ?_ | refine qs_una ?_))
  refine qs_call (v := str (mendR l.pa)) (fun L w hu hs => refMend_ok l.pa (by omega) w) (fun L w w' h hf => ⟨h.1.trans hf.le, h.2.frm hf⟩) ?_; (repeat (first | refine qs_fld ?_ | refine qsp ?_ | refine qs_slc ?_ | refine qs_bin ?_ | refine qs_idx ?_ | refine qs_len ?_ | refine qs_cnv ?_ | refine qs_idxa ?_ | refine qs_nilc ?_ | refine qs_una ?_))
  refine qs_st (i := 0) (u := str (mendR l.sc)) (fun L => mdC l (L 10) (L 12) (L 14)) (fun L w h => h.2) (fun L w w' hu h ho hl => ⟨h.1.trans hl, by exact ho⟩) ?_; (repeat (first | refine qs_fld ?_ | refine qsp ?_ | refine qs_slc ?_ | refine qs_bin ?_ | refine qs_idx ?_ | refine qs_len ?_ | refine qs_cnv ?_ | refine qs_idxa ?_ | refine qs_nilc ?_ | refine qs_una ?_))
  refine qs_st (i := 1) (u := str (mendR l.ho)) (fun L => mdC l (L 10) (L 12) (L 14)) (fun L w h => h.2) (fun L w w' hu h ho hl => ⟨h.1.trans hl, by exact ho⟩) ?_; (repeat (first | refine qs_fld ?_ | refine qsp ?_ | refine qs_slc ?_ | refine qs_bin ?_ | refine qs_idx ?_ | refine qs_len ?_ | refine qs_cnv ?_ | refine qs_idxa ?_ | refine qs_nilc ?_ | refine qs_una ?_))
  refine qs_st (i := 2) (u := str (mendR l.pa)) (fun L => mdC l (L 10) (L 12) (L 14)) (fun L w h => h.2) (fun L w w' hu h ho hl => ⟨h.1.trans hl, by exact ho⟩) ?_; (repeat (first | refine qs_fld ?_ | refine qsp ?_ | refine qs_slc ?_ | refine qs_bin ?_ | refine qs_idx ?_ | refine qs_len ?_ | refine qs_cnv ?_ | refine qs_idxa ?_ | refine qs_nilc ?_ | refine qs_una ?_))
  refine qs_nil ?_
  intro L w3 hL hS
  have e10 := hL 10 (by decide)
  have e12 := hL 12 (by decide)
  have e14 := hL 14 (by decide)
  rw [e10, e12, e14] at hS
  clear hL e10 e12 e14 L
  have ho3 : Own w3 b1 (mdD l false false) := hS.2
  have hl3 := hS.1
  clear hS
  refine sgo ?_
  refine wcdraws (fun L w' => Le [b1] w3 w' ∧ Own w' b1 (mdD l (L 7) (L 9))) (fun wd hwd => ⟨hwd.le, ho3.frm hwd⟩) ?_
  (repeat (first | refine qs_fld ?_ | refine qsp ?_ | refine qs_slc ?_ | refine qs_bin ?_ | refine qs_idx ?_ | refine qs_len ?_ | refine qs_cnv ?_ | refine qs_idxa ?_ | refine qs_nilc ?_ | refine qs_una ?_)); refine qs_load (i := 3) (fun L => mdD l (L 7) (L 9)) (v := str l.qu) ?_ (fun L w h => (h.2).sg) (fun L hu => by have h := hu.ahead 7 _ rfl rfl; simp [mdD, h]); (repeat (first | refine qs_fld ?_ | refine qsp ?_ | refine qs_slc ?_ | refine qs_bin ?_ | refine qs_idx ?_ | refine qs_len ?_ | refine qs_cnv ?_ | refine qs_idxa ?_ | refine qs_nilc ?_ | refine qs_una ?_))
  refine qs_call (v := str (mendR l.qu)) (fun L w hu hs => refMend_ok l.qu (by omega) w) (fun L w w' h hf => ⟨h.1.trans hf.le, h.2.frm hf⟩) ?_; (repeat (first | refine qs_fld ?_ | refine qsp ?_ | refine qs_slc ?_ | refine qs_bin ?_ | refine qs_idx ?_ | refine qs_len ?_ | refine qs_cnv ?_ | refine qs_idxa ?_ | refine qs_nilc ?_ | refine qs_una ?_))
  (repeat (first | refine qs_fld ?_ | refine qsp ?_ | refine qs_slc ?_ | refine qs_bin ?_ | refine qs_idx ?_ | refine qs_len ?_ | refine qs_cnv ?_ | refine qs_idxa ?_ | refine qs_nilc ?_ | refine qs_una ?_)); refine qs_load (i := 4) (fun L => mdD l (L 7) (L 9)) (v := str l.fr) ?_ (fun L w h => (h.2).sg) (fun L hu => by have h := hu.ahead 9 _ rfl rfl; simp [mdD, h]); (repeat (first | refine qs_fld ?_ | refine qsp ?_ | refine qs_slc ?_ | refine qs_bin ?_ | refine qs_idx ?_ | refine qs_len ?_ | refine qs_cnv ?_ | refine qs_idxa ?_ | refine qs_nilc ?_ | refine qs_una ?_))
  refine qs_call (v := str (mendR l.fr)) (fun L w hu hs => refMend_ok l.fr (by omega) w) (fun L w w' h hf => ⟨h.1.trans hf.le, h.2.frm hf⟩) ?_; (repeat (first | refine qs_fld ?_ | refine qsp ?_ | refine qs_slc ?_ | refine qs_bin ?_ | refine qs_idx ?_ | refine qs_len ?_ | refine qs_cnv ?_ | refine qs_idxa ?_ | refine qs_nilc ?_ | refine qs_una ?_))
  refine qs_st (i := 3) (u := str (mendR l.qu)) (fun L => mdD l (L 7) (L 9)) (fun L w h => h.2) (fun L w w' hu h ho hl => ⟨h.1.trans hl, by exact ho⟩) ?_; (repeat (first | refine qs_fld ?_ | refine qsp ?_ | refine qs_slc ?_ | refine qs_bin ?_ | refine qs_idx ?_ | refine qs_len ?_ | refine qs_cnv ?_ | refine qs_idxa ?_ | refine qs_nilc ?_ | refine qs_una ?_))
  refine qs_st (i := 4) (u := str (mendR l.fr)) (fun L => mdD l (L 7) (L 9)) (fun L w h => h.2) (fun L w w' hu h ho hl => ⟨h.1.trans hl, by exact ho⟩) ?_; (repeat (first | refine qs_fld ?_ | refine qsp ?_ | refine qs_slc ?_ | refine qs_bin ?_ | refine qs_idx ?_ | refine qs_len ?_ | refine qs_cnv ?_ | refine qs_idxa ?_ | refine qs_nilc ?_ | refine qs_una ?_))
  refine qs_nil ?_
  intro L w4 hL hS
  have e7 := hL 7 (by decide)
  have e9 := hL 9 (by decide)
  rw [e7, e9] at hS
  clear hL e7 e9 L
  have ho4 : Own w4 b1 l.mend.cells := hS.2
  have hl4 := hl3.trans hS.1
  clear hS
  have ho2' := ho2.le hl4 (by simpa using hne)
  refine sgo ?_
  refine wlstorea0 (vs := l.mend.cells) ho2' (fun w5 ho5 hl5 => ?_) (hx := rfl) (hy := rfl)
  refine sgo ?_
  refine fpc (.inl rfl) rfl rfl rfl ho5 ⟨rfl, (hf02.step hl4 (by intro x hx; simp at hx; omega)).step hl5 (by intro x hx; simp at hx; omega)⟩

def mdE (l : Lnk) (k : Nat) : List Value := [str (if 0 < k then mendR l.sc else l.sc), str (if 1 < k then mendR l.ho else l.ho), str (if 2 < k then mendR l.pa else l.pa), str (if 3 < k then mendR l.qu else l.qu), str (if 4 < k then mendR l.fr else l.fr), .bool l.hs, .bool l.hh, .bool l.hq, .bool l.hf]
set_option maxHeartbeats 1000000 in
theorem mended_ok (l : Lnk) (hb : l.sm 16777216) (w : World) : PureC Try.prog 38 #[l.v] w l.mend.v := by
  obtain ⟨g1, g2, g3, g4, g5⟩ := hb
  refine enter (l := [l.v]) Try.func38 rfl Try.ntmps38 (by kernel_rfl) rfl ?_
  refine sgo ?_
  refine wlbox (hx := rfl) fun b1 w1 hb1 ho1 hf1 => ?_
  refine wlalloc fun b2 w2 hb2 ho2 hf2 => ?_
  have ho1' : Own w1 b1 l.cells := ho1
  replace ho1 := ho1'.frm hf2
  have hf02 := hf1.trans hf2
  have hb2' := hf1.size
  have hlt := ho1'.lt
  clear ho1'
  refine sgo ?_
  refine wlbsn (vs := [ptrAt (pb b1) 0, ptrAt (pb b1) 1, ptrAt (pb b1) 2, ptrAt (pb b1) 3, ptrAt (pb b1) 4]) 5 (fun b3 w3 hb3 ho3 hf3 => ?_) (h1 := by simp [Value.cells])
  have hlt2 := ho2.lt
  have hz3 := hf02.size
  refine sgo ?_
  refine wcloop (X := Nat) (fun k => [(1, ptrAt (pb b1) 0), (2, ptrAt (pb b2) 0), (10, .slice (pb b3) 5 5), (11, int 5), (12, int k)])
    (fun k wr => k ≤ 5 ∧ Own wr b1 (mdE l k) ∧ Own wr b2 lz.cells ∧ Own wr b3 [ptrAt (pb b1) 0, ptrAt (pb b1) 1, ptrAt (pb b1) 2, ptrAt (pb b1) 3, ptrAt (pb b1) 4] ∧ Frm w wr) (fun k => 5 - k) 0 ⟨rfl, rfl, rfl, rfl, rfl, trivial⟩ ⟨by omega, ho1.frm hf3, ho2.frm hf3, ho3, hf02.trans hf3⟩ ?_
  rintro k wr ρ ⟨hk, o1, o2, o3, hfr⟩
  refine sgo ?_
  (show WC _ _ _ _ _ _ _; first | refine WC_dec rfl (fun hc => ?_) (fun hc => ?_) | refine WC_cond rfl (fun hc => ?_) (fun hc => ?_))
  · have hk5 : k = 0 ∨ k = 1 ∨ k = 2 ∨ k = 3 ∨ k = 4 := by omega
    rcases hk5 with rfl | rfl | rfl | rfl | rfl
    · refine sgo ?_
      refine wlpure (mend_ok l.sc (by omega) _) fun w6 hf6 => ?_
      have o1' := o1.frm hf6
      refine sgo ?_
      refine wlst_str o1' (fun w7 o7 hl7 => ?_) (hk := by simp [mdE])
      refine sgo ?_
      exact ⟨1, ⟨rfl, rfl, rfl, rfl, rfl, trivial⟩, ⟨by omega, o7, (o2.frm hf6).le hl7 (by simp; omega), (o3.frm hf6).le hl7 (by simp; omega), (hfr.trans hf6).step hl7 (by intro x hx; simp at hx; omega)⟩, by omega⟩
    · refine sgo ?_
      refine wlpure (mend_ok l.ho (by omega) _) fun w6 hf6 => ?_
      have o1' := o1.frm hf6
      refine sgo ?_
      refine wlst_str o1' (fun w7 o7 hl7 => ?_) (hk := by simp [mdE])
      refine sgo ?_
      exact ⟨2, ⟨rfl, rfl, rfl, rfl, rfl, trivial⟩, ⟨by omega, o7, (o2.frm hf6).le hl7 (by simp; omega), (o3.frm hf6).le hl7 (by simp; omega), (hfr.trans hf6).step hl7 (by intro x hx; simp at hx; omega)⟩, by omega⟩
    · refine sgo ?_
      refine wlpure (mend_ok l.pa (by omega) _) fun w6 hf6 => ?_
      have o1' := o1.frm hf6
      refine sgo ?_
      refine wlst_str o1' (fun w7 o7 hl7 => ?_) (hk := by simp [mdE])
      refine sgo ?_
      exact ⟨3, ⟨rfl, rfl, rfl, rfl, rfl, trivial⟩, ⟨by omega, o7, (o2.frm hf6).le hl7 (by simp; omega), (o3.frm hf6).le hl7 (by simp; omega), (hfr.trans hf6).step hl7 (by intro x hx; simp at hx; omega)⟩, by omega⟩
    · refine sgo ?_
      refine wlpure (mend_ok l.qu (by omega) _) fun w6 hf6 => ?_
      have o1' := o1.frm hf6
      refine sgo ?_
      refine wlst_str o1' (fun w7 o7 hl7 => ?_) (hk := by simp [mdE])
      refine sgo ?_
      exact ⟨4, ⟨rfl, rfl, rfl, rfl, rfl, trivial⟩, ⟨by omega, o7, (o2.frm hf6).le hl7 (by simp; omega), (o3.frm hf6).le hl7 (by simp; omega), (hfr.trans hf6).step hl7 (by intro x hx; simp at hx; omega)⟩, by omega⟩
    · refine sgo ?_
      refine wlpure (mend_ok l.fr (by omega) _) fun w6 hf6 => ?_
      have o1' := o1.frm hf6
      refine sgo ?_
      refine wlst_str o1' (fun w7 o7 hl7 => ?_) (hk := by simp [mdE])
      refine sgo ?_
      exact ⟨5, ⟨rfl, rfl, rfl, rfl, rfl, trivial⟩, ⟨by omega, o7, (o2.frm hf6).le hl7 (by simp; omega), (o3.frm hf6).le hl7 (by simp; omega), (hfr.trans hf6).step hl7 (by intro x hx; simp at hx; omega)⟩, by omega⟩
  · obtain rfl : k = 5 := by omega
    have o1' : Own wr b1 l.mend.cells := o1
    clear o1
    refine sgo ?_
    refine wlstorea0 (vs := l.mend.cells) o2 (fun w5 ho5 hl5 => ?_) (hx := rfl) (hy := rfl)
    refine sgo ?_
    refine fpc (.inl rfl) rfl rfl rfl ho5 ⟨rfl, hfr.step hl5 (by intro x hx; simp at hx; omega)⟩
end Go.Proofs.Ytffaoehhhdcjjaa

/-
  Texts cut and joined: what is valid stays so.
-/
set_option linter.unusedSimpArgs false
set_option linter.unusedVariables false
set_option linter.unnecessarySimpa false
namespace Go.Proofs.Ytffaoehhhdcjjaa
open Go Go.Sv Go.RowKit
theorem valid_runes {l : List UInt8} (h : validR l = true) : ∃ rs : List Nat, (∀ r ∈ rs, Good r) ∧ l = rs.flatMap encR := ⟨runesN l, runesN_good l, (mendR_id h).symm⟩
theorem at_app_l {a b : List UInt8} {i : Nat} (h : i < a.length) : at0 (a ++ b) i = at0 a i := by simp only [at0, List.getElem?_append_left h]
theorem at_app_r {a b : List UInt8} {i : Nat} (h : a.length ≤ i) : at0 (a ++ b) i = at0 b (i - a.length) := by simp only [at0, List.getElem?_append_right h]
theorem enc_hi (r : Nat) (h1 : 128 ≤ r) (h2 : r < 1114112) : ∀ i, i < (encR r).length → 128 ≤ at0 (encR r) i := by
  intro i hi
  have hlt := encN_lt r h2
  have hi' : i < (encN r).length := by rwa [encR_len] at hi
  have e : at0 (encR r) i = (encN r)[i] := by
    have := hlt _ (List.getElem_mem hi')
    simp only [at0, encR, List.getElem?_map, List.getElem?_eq_getElem hi', Option.map_some, Option.getD_some]
    exact UInt8.toNat_ofNat_of_lt' (by simpa using this)
  rw [e]
  have hm : ∀ x ∈ encN r, 128 ≤ x := by
    intro x hx
    unfold encN at hx
    repeat' split at hx
    all_goals simp only [List.mem_cons, List.not_mem_nil, or_false] at hx
    all_goals omega
  exact hm _ (List.getElem_mem hi')
theorem flat_cut : ∀ (rs : List Nat), (∀ r ∈ rs, Good r) → ∀ n : Nat, n ≤ (rs.flatMap encR).length → (n = 0 ∨ at0 (rs.flatMap encR) (n - 1) < 128) →
    ∃ ra rb : List Nat, rs = ra ++ rb ∧ (rs.flatMap encR).take n = ra.flatMap encR ∧ (rs.flatMap encR).drop n = rb.flatMap encR
  | [], _, n, hn, _ => ⟨[], [], rfl, by simp, by simp⟩
  | r :: rs, hg, n, hn, ha => by
    have hr := hg r List.mem_cons_self
    rcases Nat.eq_zero_or_pos n with rfl | hpos
    · exact ⟨[], r :: rs, rfl, by simp, by simp⟩
    · have ha' : at0 ((r :: rs).flatMap encR) (n - 1) < 128 := by rcases ha with h | h; omega; exact h
      simp only [List.flatMap_cons] at hn ha' ⊢
      have hl1 := encR_len4 r
      rcases Nat.lt_or_ge (encR r).length n with h | h
      · rw [at_app_r (by omega)] at ha'
        obtain ⟨ra, rb, h1, h2, h3⟩ := flat_cut rs (fun x hx => hg x (List.mem_cons_of_mem _ hx)) (n - (encR r).length) (by simp only [List.length_append] at hn; omega) (.inr (by rwa [show n - (encR r).length - 1 = n - 1 - (encR r).length from by omega]))
        refine ⟨r :: ra, rb, by rw [h1]; rfl, ?_, ?_⟩
        · rw [List.take_append, List.take_of_length_le (by omega), h2, List.flatMap_cons]
        · rw [List.drop_append, List.drop_eq_nil_of_le (by omega), h3, List.nil_append]
      · rw [at_app_l (by omega)] at ha'
        have hr128 : r < 128 := by
          rcases Nat.lt_or_ge r 128 with h1 | h1
          · exact h1
          · have := enc_hi r h1 hr.1 (n - 1) (by omega)
            omega
        have hlen : (encR r).length = 1 := by rw [encR_len]; unfold encN; rw [if_pos hr128]; rfl
        obtain rfl : n = 1 := by omega
        refine ⟨[r], rs, rfl, ?_, ?_⟩
        · rw [List.take_append, List.take_of_length_le (by omega), hlen]; simp
        · rw [List.drop_append, List.drop_eq_nil_of_le (by omega), hlen]; simp
theorem valid_cut {l : List UInt8} (h : validR l = true) (n : Nat) (hn : n ≤ l.length) (ha : n = 0 ∨ at0 l (n - 1) < 128) : validR (l.take n) = true ∧ validR (l.drop n) = true := by
  obtain ⟨rs, hg, rfl⟩ := valid_runes h
  obtain ⟨ra, rb, h1, h2, h3⟩ := flat_cut rs hg n hn ha
  rw [h2, h3]
  exact ⟨valid_flat _ fun r hr => hg r (by rw [h1]; exact List.mem_append_left _ hr), valid_flat _ fun r hr => hg r (by rw [h1]; exact List.mem_append_right _ hr)⟩
theorem valid_app {a b : List UInt8} (ha : validR a = true) (hb : validR b = true) : validR (a ++ b) = true := by
  obtain ⟨ra, ga, rfl⟩ := valid_runes ha
  obtain ⟨rb, gb, rfl⟩ := valid_runes hb
  rw [← List.flatMap_append]
  exact valid_flat _ fun r hr => by rcases List.mem_append.1 hr with h | h; exact ga r h; exact gb r h
theorem valid_one (c : Nat) (hc : c < 128) : validR [UInt8.ofNat c] = true := by
  have e : [UInt8.ofNat c] = [c].flatMap encR := by simp [encR, encN, hc]
  rw [e]
  exact valid_flat _ fun r hr => by simp only [List.mem_singleton] at hr; subst hr; unfold Good; omega
end Go.Proofs.Ytffaoehhhdcjjaa

