/-
  Package link: schemes; what is stripped.
-/
import Derived.Test.YtffaoehhhdcjjaaSvNm
import Derived.Test.YtffaoehhhdcjjaaSvPl1
import Derived.Laws.MakeOwn
set_option linter.unusedSimpArgs false
set_option linter.unusedVariables false
set_option linter.unnecessarySimpa false
namespace Go.Sv
open Go Go.RowKit
section
variable {P : Program} {n : Nat} {ds : Ctx} {ops : Array Oper} {Q : Exit → Ctx → Env → World → Prop} {rest : List Oper} {σ : GE} {w : World} {d : Nat} {ty t e : TypeId} {pos : String} {af : Array Edge} {x y : Operand} {zv : Value} {size bytes c : Nat} {kl kc : IntKind}
/-- make of no elements, with room for c -/
theorem wlmake0 [hu : Und P t (.slice e)] [hi : Inf P e zv size bytes] (h : ∀ b w', w.heap.size ≤ b → Row w' size (pb b) 0 c [] → Frm w w' → WL P n ds ops Q rest (real (updG σ d ⟨.slice (pb b) 0 c, true⟩)) w')
    (hx : evl (real σ) x = .int kl 0 := by rfl) (hy : evl (real σ) y = .int kc c := by rfl) (hb : bytes * c ≤ 281474976710656 := by omega) (hc : c ≤ 9223372036854775807 := by omega) :
    WL P n ds ops Q (⟨some d, .makeSlice t x y, ty, pos, af, none⟩ :: rest) (real σ) w := by
  obtain ⟨i, h1, h2, h3, h4⟩ := inf_size (P := P) (t := e)
  subst h3 h4
  have hbI : (i.bytes : Int) * (c : Int) ≤ 281474976710656 := by
    have h : ((i.bytes * c : Nat) : Int) ≤ 281474976710656 := by omega
    rwa [Int.natCast_mul] at h
  have hr := run_make (P := P) w t e i zv hu.ok h1 h2 kl kc 0 c (Int.le_refl _) (by omega) hbI (by omega)
  simp only [Int.toNat_zero, Int.toNat_natCast] at hr
  refine wl (h w.heap.size (w.alloc (.cells (madeCells zv.cells (c * i.size)) e)) (Nat.le_refl _) ?_ (frm_alloc w _)) (Y.val ?_)
  · refine ⟨by simp, .inr ⟨_, 0, _, _, rfl, heap_alloc_new _ _, by omega, hc, by rw [size_madeCells]; omega, by simp⟩⟩
  · simp only [execOp, hx, hy, Sem.run_bind]
    rw [hr]
    rfl
end
end Go.Sv
namespace Go.Proofs.Ytffaoehhhdcjjaa
open Go Go.Sv Go.RowKit

def schB (c : Nat) : Bool := letterR c || digitR c || decide (c = 43 ∨ c = 45 ∨ c = 46)
theorem schemeByte_ok (c : Nat) (hn : c < 256) (w : World) : PureC Try.prog 62 #[byt c] w (.bool (schB c)) := by
  refine enter (l := [byt c]) Try.func62 rfl Try.ntmps62 (by kernel_rfl) rfl ?_
  refine sgo ?_
  refine wlpure (letter_ok c _) fun w1 hf1 => ?_
  refine sgo ?_
  refine wlcallgp (vals := [i32 c]) (fun _ => digit_ok c _) fun w2 hf2 => ?_
  refine sgo ?_
  (first | refine fp1 (.inl rfl) rfl rfl ?_ | refine fp2 (.inl rfl) rfl rfl rfl ?_ | refine fp3 (.inl rfl) rfl rfl rfl rfl ?_ | refine fp0 (.inr rfl) rfl ?_ | refine fp0 (.inl rfl) rfl ?_ | refine fp1 (.inr rfl) rfl rfl ?_); refine ⟨?_, by (first | exact Frm.refl _ | assumption | (refine Frm.trans ?_ (by assumption); first | exact Frm.refl _ | assumption))⟩; (try simp only [realB, rv_true, Nat.reduceBEq, cond_true, cond_false, entG, real_lif, updGL])
  refine congrArg Value.bool ?_
  unfold schB
  rw [Bool.eq_iff_iff]
  simp only [pkb_or]
  grind
/-- a scheme's end, behind its first byte -/
def schF : List UInt8 → Nat → Nat × Bool
  | [], _ => (0, false)
  | c :: t, i => if c.toNat = 58 then (i, true) else if schB c.toNat then schF t (i + 1) else (0, false)
def schemeR (l : List UInt8) : Nat × Bool := if l = [] ∨ letterR (at0 l 0) = false then (0, false) else schF (l.drop 1) 1
theorem schF_at (l : List UInt8) (i : Nat) (h : i < l.length) : schF (l.drop i) i = if at0 l i = 58 then (i, true) else if schB (at0 l i) then schF (l.drop (i + 1)) (i + 1) else (0, false) := by
  rw [List.drop_eq_getElem_cons h, schF]
  simp [at0, h]
theorem schF_le : ∀ (l : List UInt8) (i : Nat), (schF l i).1 ≤ i + l.length
  | [], i => by simp [schF]
  | c :: t, i => by
    have := schF_le t (i + 1)
    simp only [schF]
    repeat' split
    · simp
    · simp only [List.length_cons]; omega
    · simp
theorem schemeR_le (l : List UInt8) : (schemeR l).1 ≤ l.length := by
  unfold schemeR
  split
  · simp
  · rename_i h
    have := schF_le (l.drop 1) 1
    cases l with
    | nil => simp at h
    | cons c t => simp at this ⊢; omega
set_option maxHeartbeats 1000000 in
theorem scheme_ok (l : List UInt8) (hb : l.length ≤ 4611686018427387904) (w : World) : PureC Try.prog 48 #[str l] w (.tuple #[int (schemeR l).1, .bool (schemeR l).2]) := by
  by_cases hl : l = []
  · subst hl
    refine enter (l := [str []]) Try.func48 rfl Try.ntmps48 (by kernel_rfl) rfl ?_
    refine sgo ?_
    refine wlcallgp (vals := [i32 0]) (fun _ => letter_ok 0 _) fun w1 hf1 => ?_
    refine sgo ?_
    (first | refine fp1 (.inl rfl) rfl rfl ?_ | refine fp2 (.inl rfl) rfl rfl rfl ?_ | refine fp3 (.inl rfl) rfl rfl rfl rfl ?_ | refine fp0 (.inr rfl) rfl ?_ | refine fp0 (.inl rfl) rfl ?_ | refine fp1 (.inr rfl) rfl rfl ?_); refine ⟨?_, by (first | exact Frm.refl _ | assumption | (refine Frm.trans ?_ (by assumption); first | exact Frm.refl _ | assumption))⟩; (try simp only [realB, rv_true, Nat.reduceBEq, cond_true, cond_false, entG, real_lif, updGL])
    rfl
  have hlen := List.length_pos_iff.2 hl
  refine enter (l := [str l]) Try.func48 rfl Try.ntmps48 (by kernel_rfl) rfl ?_
  refine sgo ?_
  have h256 := at_lt l 0
  refine wlcallgp (vals := [i32 (at0 l 0)]) (fun _ => letter_ok (at0 l 0) _) fun w1 hf1 => ?_
  refine sgo ?_
  (show WC _ _ _ _ _ _ _; first | refine WC_dec rfl (fun hc => ?_) (fun hc => ?_) | refine WC_cond rfl (fun hc => ?_) (fun hc => ?_))
  · simp only [pkb_or, Bool.or_eq_true, decide_eq_true_eq, Bool.not_eq_true'] at hc
    refine sgo ?_
    (first | refine fp1 (.inl rfl) rfl rfl ?_ | refine fp2 (.inl rfl) rfl rfl rfl ?_ | refine fp3 (.inl rfl) rfl rfl rfl rfl ?_ | refine fp0 (.inr rfl) rfl ?_ | refine fp0 (.inl rfl) rfl ?_ | refine fp1 (.inr rfl) rfl rfl ?_); refine ⟨?_, by (first | exact Frm.refl _ | assumption | (refine Frm.trans ?_ (by assumption); first | exact Frm.refl _ | assumption))⟩; (try simp only [realB, rv_true, Nat.reduceBEq, cond_true, cond_false, entG, real_lif, updGL])
    rw [schemeR, if_pos hc]
    rfl
  · simp only [pkb_or, Bool.or_eq_false_iff, decide_eq_false_iff_not, Bool.not_eq_false'] at hc
    have hs : schemeR l = schF (l.drop 1) 1 := by
      rw [schemeR, if_neg (by simp [hl, hc.2])]
    rw [hs]
    clear hc
    refine sgo ?_
    refine wcloop (X := Nat) (fun x => [(0, str l), (4, int x)])
      (fun x wr => x ≤ l.length ∧ schF (l.drop x) x = schF (l.drop 1) 1 ∧ Frm w wr) (fun x => l.length - x) 1 ⟨rfl, rfl, trivial⟩ ⟨by omega, rfl, hf1⟩ ?_
    rintro i wr ρ ⟨hi, he, hfr⟩
    refine sgo ?_
    (show WC _ _ _ _ _ _ _; first | refine WC_dec rfl (fun hc => ?_) (fun hc => ?_) | refine WC_cond rfl (fun hc => ?_) (fun hc => ?_))
    · have hil : i < l.length := by omega
      have hstep := schF_at l i hil
      rw [he] at hstep
      rw [hstep]
      have h2 := at_lt l i
      refine sgo ?_
      (show WC _ _ _ _ _ _ _; first | refine WC_dec rfl (fun hc => ?_) (fun hc => ?_) | refine WC_cond rfl (fun hc => ?_) (fun hc => ?_))
      · rw [if_pos (by simp only [at0]; omega)]
        refine sgo ?_
        (first | refine fp1 (.inl rfl) rfl rfl ?_ | refine fp2 (.inl rfl) rfl rfl rfl ?_ | refine fp3 (.inl rfl) rfl rfl rfl rfl ?_ | refine fp0 (.inr rfl) rfl ?_ | refine fp0 (.inl rfl) rfl ?_ | refine fp1 (.inr rfl) rfl rfl ?_); refine ⟨?_, by (first | exact Frm.refl _ | assumption | (refine Frm.trans ?_ (by assumption); first | exact Frm.refl _ | assumption))⟩; (try simp only [realB, rv_true, Nat.reduceBEq, cond_true, cond_false, entG, real_lif, updGL])
      · rw [if_neg (by simp only [at0]; omega)] at hstep ⊢
        refine sgo ?_
        refine wlpure (schemeByte_ok (at0 l i) h2 _) fun w2 hf2 => ?_
        have hfr2 := hfr.trans hf2
        refine sgo ?_
        (show WC _ _ _ _ _ _ _; first | refine WC_dec rfl (fun hc => ?_) (fun hc => ?_) | refine WC_cond rfl (fun hc => ?_) (fun hc => ?_))
        · simp only [Bool.not_eq_true'] at hc
          rw [if_neg (by simp [hc])]
          refine sgo ?_
          (first | refine fp1 (.inl rfl) rfl rfl ?_ | refine fp2 (.inl rfl) rfl rfl rfl ?_ | refine fp3 (.inl rfl) rfl rfl rfl rfl ?_ | refine fp0 (.inr rfl) rfl ?_ | refine fp0 (.inl rfl) rfl ?_ | refine fp1 (.inr rfl) rfl rfl ?_); refine ⟨?_, by (first | exact Frm.refl _ | assumption | (refine Frm.trans ?_ (by assumption); first | exact Frm.refl _ | assumption))⟩; (try simp only [realB, rv_true, Nat.reduceBEq, cond_true, cond_false, entG, real_lif, updGL])
          rfl
        · simp only [Bool.not_eq_false'] at hc
          rw [if_pos hc] at hstep ⊢
          refine sgo ?_
          exact ⟨i + 1, ⟨rfl, rfl, trivial⟩, ⟨by omega, rfl, hfr2⟩, by omega⟩
    · obtain rfl : i = l.length := by omega
      rw [List.drop_length] at he
      rw [← he]
      refine sgo ?_
      (first | refine fp1 (.inl rfl) rfl rfl ?_ | refine fp2 (.inl rfl) rfl rfl rfl ?_ | refine fp3 (.inl rfl) rfl rfl rfl rfl ?_ | refine fp0 (.inr rfl) rfl ?_ | refine fp0 (.inl rfl) rfl ?_ | refine fp1 (.inr rfl) rfl rfl ?_); refine ⟨?_, by (first | exact Frm.refl _ | assumption | (refine Frm.trans ?_ (by assumption); first | exact Frm.refl _ | assumption))⟩; (try simp only [realB, rv_true, Nat.reduceBEq, cond_true, cond_false, entG, real_lif, updGL])
      rfl

theorem gdec {p : Prop} [Decidable p] (h : (true && (decide p == true)) = true) : p := by simpa using h
/-- what is left of runes behind leading blanks and controls -/
def cutL (rs : List Nat) : List Nat := rs.dropWhile fun r => decide (r ≤ 32)
def cutT (rs : List Nat) : List Nat := (cutL rs.reverse).reverse
def keepN (rs : List Nat) : List Nat := rs.filter fun r => decide (r ≠ 9 ∧ r ≠ 10 ∧ r ≠ 13)
def stripN (rs : List Nat) : List Nat := keepN (cutT (cutL rs))
def stripR (l : List UInt8) : List UInt8 := (stripN (runesN l)).flatMap encR
theorem cutL_nil : cutL [] = [] := rfl
theorem cutL_at (rs : List Nat) (i : Nat) (h : i < rs.length) : cutL (rs.drop i) = if rs[i]?.getD 0 ≤ 32 then cutL (rs.drop (i + 1)) else rs.drop i := by
  rw [List.drop_eq_getElem_cons h, cutL, List.dropWhile_cons]
  simp [h, cutL]
theorem cutT_nil : cutT [] = [] := rfl
theorem cutT_at (rs : List Nat) (i : Nat) (h : i < rs.length) : cutT (rs.take (i + 1)) = if rs[i]?.getD 0 ≤ 32 then cutT (rs.take i) else rs.take (i + 1) := by
  rw [List.take_succ_eq_append_getElem h, cutT, List.reverse_append, cutL]
  simp only [List.reverse_cons, List.reverse_nil, List.nil_append, List.cons_append, List.dropWhile_cons]
  simp only [List.getElem?_eq_getElem h, Option.getD_some, decide_eq_true_eq]
  split
  · rfl
  · simp
theorem cutL_mem {rs : List Nat} {r : Nat} (h : r ∈ cutL rs) : r ∈ rs := (List.dropWhile_sublist _).subset h
theorem cutT_mem {rs : List Nat} {r : Nat} (h : r ∈ cutT rs) : r ∈ rs := by
  have := cutL_mem (List.mem_reverse.1 h)
  simpa using this
theorem stripN_mem {rs : List Nat} {r : Nat} (h : r ∈ stripN rs) : r ∈ rs := cutL_mem (cutT_mem (List.mem_filter.1 h).1)
theorem rs32_len (rs : List Nat) : (rs32 rs).length = rs.length := by simp [rs32]
theorem rs32_drop (rs : List Nat) (i : Nat) : (rs32 rs).drop i = rs32 (rs.drop i) := by simp [rs32, List.map_drop]
theorem rs32_take (rs : List Nat) (i : Nat) : (rs32 rs).take i = rs32 (rs.take i) := by simp [rs32, List.map_take]

set_option maxHeartbeats 1000000 in
theorem strip_ok (l : List UInt8) (hb : l.length ≤ 1073741824) (w : World) : PureC Try.prog 47 #[str l] w (str (stripR l)) := by
  refine enter (l := [str l]) Try.func47 rfl Try.ntmps47 (by kernel_rfl) rfl ?_
  refine sgo ?_
  refine wlpure (mend_ok l hb _) fun w1 hf1 => ?_
  have hml := mendR_len l
  refine sgo ?_
  refine wls2r (valid_mend l) (by omega) fun b c w2 hb2 hR2 hf2 => ?_
  rw [runesN_mend] at hR2 ⊢
  have hfr2 := hf1.trans hf2
  have hcap := hR2.le_cap
  have hrl := runesN_len l
  have hgd := runesN_good l
  have hI2 := hR2.im (M := []) (by simp)
  unfold stripR stripN
  generalize runesN l = rs at *
  refine sgo ?_
  refine wcloop (X := Nat × Option Addr × Nat) (fun x => [(3, .slice x.2.1 (rs.length - x.1) x.2.2)])
    (fun x wr => x.1 ≤ rs.length ∧ rs.length - x.1 ≤ x.2.2 ∧ x.2.2 ≤ 9223372036854775807 ∧ Im [] wr x.2.1 (rs32 (rs.drop x.1)) ∧ cutL (rs.drop x.1) = cutL rs ∧ Frm w wr) (fun x => rs.length - x.1) (0, pb b, c) ⟨rfl, trivial⟩ ⟨by omega, hcap.1, hcap.2, hI2, rfl, hfr2⟩ ?_
  rintro ⟨i, p, c1⟩ wr ρ ⟨hi, hc1, hc2, hI, he, hfr⟩
  dsimp only at hi hc1 hc2 hI he ⊢
  have hdl : (rs32 (rs.drop i)).length = rs.length - i := by simp [rs32]
  have hsome : 0 < rs.length - i → ∃ a, p = some a := fun h => hI.some (by omega)
  have hget : 0 < rs.length - i → (rs32 (rs.drop i))[0]? = some (i32 (rs[i]?.getD 0 : Nat)) := fun h => by
    exact rs32_get (by simp [show i < rs.length from by omega])
  have hcut := cutL_at rs i
  generalize rs[i]?.getD 0 = r at *
  refine sgo ?_
  refine wlg (v := ptrAt p 0) ?_ rfl rfl (fun hg => y_idx1 (i := 0) (evG hg) (evG hg) (by have := gdec hg; omega) (hsome (by have := gdec hg; omega)))
  refine wlg (v := i32 r) ?_ rfl rfl (fun hg => y_load (i := 0) (evG hg) hI.sg (hget (by have := gdec hg; omega)))
  refine sgo ?_
  (show WC _ _ _ _ _ _ _; first | refine WC_dec rfl (fun hc => ?_) (fun hc => ?_) | refine WC_cond rfl (fun hc => ?_) (fun hc => ?_))
  · simp only [pkb_and, Bool.and_eq_true, decide_eq_true_eq] at hc
    have hil : i < rs.length := by omega
    have hcut := hcut hil
    rw [if_pos (by omega), he] at hcut
    refine sgo ?_
    have hI3 := hI.part1 (c := c1) (i' := 1) (by intro h; rw [rs32_drop, List.drop_drop, List.drop_eq_nil_of_le (by omega)]; rfl)
    rw [rs32_drop, List.drop_drop] at hI3
    exact ⟨(i + 1, slp c1 1 p 1, c1 - 1), ⟨rfl, trivial⟩, ⟨by dsimp only; omega, by dsimp only; omega, by dsimp only; omega, hI3, hcut.symm, hfr⟩, by dsimp only; omega⟩
  · simp only [pkb_and, Bool.and_eq_false_iff, decide_eq_false_iff_not] at hc
    have hdone : cutL rs = rs.drop i := by
      rcases Nat.lt_or_ge i rs.length with h | h
      · rw [← he, hcut h, if_neg (by omega)]
      · rw [← he, List.drop_eq_nil_of_le h]; rfl
    rw [hdone]
    have hdl2 : (rs.drop i).length = rs.length - i := by simp
    rw [← hdl2] at hc1
    have hgd2 : ∀ r ∈ rs.drop i, Good r := fun r hr => hgd r (List.mem_of_mem_drop hr)
    have hl2 : (rs.drop i).length ≤ 1073741824 := by omega
    clear hc
    refine sgo ?_
    rw [← hdl2]
    clear hdone hdl2 hcut he hget hsome hdl hI2 hR2 hgd hrl
    generalize rs.drop i = qs at *
    refine wcloop (X := Nat) (fun x => [(3, .slice p x c1)])
      (fun x wr => x ≤ qs.length ∧ cutT (qs.take x) = cutT qs ∧ Im [] wr p (rs32 (qs.take x)) ∧ Frm w wr) (fun x => x) qs.length ⟨rfl, trivial⟩ ⟨by omega, by rw [List.take_length], by rw [List.take_length]; exact hI, hfr⟩ ?_
    clear hI hfr hi r wr ρ
    rintro k wr ρ ⟨hk, he, hI, hfr⟩
    have hkl : (qs.take k).length = k := by simp; omega
    have hsome : 0 < k → ∃ a, p = some a := fun h => hI.some (by rw [rs32_length]; omega)
    have hget : 0 < k → (rs32 (qs.take k))[k - 1]? = some (i32 (qs[k - 1]?.getD 0 : Nat)) := fun h => by
      refine rs32_get ?_
      rw [List.getElem?_take_of_lt (by omega)]
      simp [show k - 1 < qs.length from by omega]
    have hcut := cutT_at qs (k - 1)
    generalize qs[k - 1]?.getD 0 = r at *
    have ek : ((k : Int) - 1).toNat = k - 1 := by omega
    refine sgo ?_
    refine wlg (v := ptrAt p ((k : Int) - 1).toNat) ?_ rfl rfl (fun hg => y_idx1I (evG hg) (evG hg) (by have := gdec hg; omega) (hsome (by have := gdec hg; omega)))
    rw [← ek] at hget
    refine wlg (v := i32 r) ?_ rfl rfl (fun hg => y_load (evG hg) hI.sg (hget (by have := gdec hg; omega)))
    refine sgo ?_
    (show WC _ _ _ _ _ _ _; first | refine WC_dec rfl (fun hc => ?_) (fun hc => ?_) | refine WC_cond rfl (fun hc => ?_) (fun hc => ?_))
    · simp only [pkb_and, Bool.and_eq_true, decide_eq_true_eq] at hc
      have h0 : 0 < k := by omega
      have hcut := hcut (by omega)
      rw [if_pos (by omega), Nat.sub_add_cancel h0, he] at hcut
      have hI3 := hI.take (k - 1)
      rw [rs32_take, List.take_take, Nat.min_eq_left (by omega)] at hI3
      refine sgo ?_
      exact ⟨k - 1, ⟨congrArg (fun x => Value.slice p x c1) ek, trivial⟩, ⟨by omega, hcut.symm, hI3, hfr⟩, by omega⟩
    · simp only [pkb_and, Bool.and_eq_false_iff, decide_eq_false_iff_not] at hc
      have hdone : cutT qs = qs.take k := by
        rcases Nat.eq_zero_or_pos k with h | h
        · rw [← he, h]; rfl
        · have := hcut (by omega)
          rw [if_neg (by omega), Nat.sub_add_cancel h, he] at this
          exact this
      rw [hdone]
      have hgd3 : ∀ r ∈ qs.take k, Good r := fun r hr => hgd2 r (List.mem_of_mem_take hr)
      have hl3 : (qs.take k).length ≤ 1073741824 := by omega
      clear hc
      refine sgo ?_
      have hc3 : (qs.take k).length ≤ c1 := by omega
      clear hdone hcut he hget hsome hgd2 hc1 hl2 hk ek
      generalize qs.take k = ts at *
      subst hkl
      have hBw : ∀ {x}, wr.heap.size ≤ x → w.heap.size ≤ x := fun h => Nat.le_trans hfr.size h
      clear hcap hb2 hf2 hf1 hfr2 hc2 hml hb w1 w2
      refine wlmake0 fun b0 w0 hb0 hR0 hf0 => ?_
      replace hI := (hI.fresh hb0).frm hf0
      replace hfr := hfr.trans hf0
      have hBb : ∀ x ∈ rb (pb b0), w.heap.size ≤ x := by
        intro x hx
        simp only [rb, List.mem_singleton] at hx
        subst hx
        exact hBw hb0
      clear hb0 hf0
      refine sgo ?_
      refine wcloop (X := Nat × Option Addr × List Nat × Nat) (fun x => [(4, .slice x.2.1 x.2.2.1.length x.2.2.2), (41, .slice p ts.length c1), (42, int ts.length), (43, int x.1)])
        (fun x wr => x.1 ≤ ts.length ∧ x.2.2.1.length ≤ x.1 ∧ keepN (ts.take x.1) = x.2.2.1 ∧ Row wr 1 x.2.1 x.2.2.1.length x.2.2.2 (rs32 x.2.2.1) ∧ Im (rb x.2.1) wr p (rs32 ts) ∧ (∀ y ∈ rb x.2.1, w.heap.size ≤ y) ∧ Frm w wr) (fun x => ts.length - x.1) (0, pb b0, [], ts.length) ⟨rfl, rfl, rfl, rfl, trivial⟩ ⟨by omega, by simp, rfl, hR0, hI, hBb, hfr⟩ ?_
      clear hR0 hI hBb hfr hBw wr ρ
      rintro ⟨j, q, ks, c2⟩ wr ρ ⟨hj, hkl, hke, hR, hI, hBb, hfr⟩
      dsimp only at hj hkl hke hR hI hBb ⊢
      refine sgo ?_
      (show WC _ _ _ _ _ _ _; first | refine WC_dec rfl (fun hc => ?_) (fun hc => ?_) | refine WC_cond rfl (fun hc => ?_) (fun hc => ?_))
      · have hjl : j < ts.length := by omega
        have hst : keepN (ts.take (j + 1)) = ks ++ keepN [ts[j]?.getD 0] := by
          rw [List.take_succ_eq_append_getElem hjl, keepN, List.filter_append]
          rw [show List.filter _ (ts.take j) = ks from hke]
          simp [hjl, keepN]
        have hget : (rs32 ts)[j]? = some (i32 (ts[j]?.getD 0 : Nat)) := rs32_get (by simp [hjl])
        generalize ts[j]?.getD 0 = r at *
        have hsome := hI.some (by rw [rs32_length]; omega)
        refine sgo ?_
        by_cases hr : r ≠ 9 ∧ r ≠ 10 ∧ r ≠ 13
        · rw [show keepN [r] = [r] from by simp [keepN, hr]] at hst
          iterate 3 (refine sgo ?_; refine WC_dec rfl (fun hc => absurd hc (by omega)) (fun hc => ?_))
          refine sgo ?_
          refine wlb1_int fun b6 w6 hb6 ho6 hf6 => ?_
          refine wlapp (hR.frm hf6) ho6.sg (fun q' c' w7 hR7 hl7 => ?_)
          have hIm7 := (hI.frm hf6).lm hl7
          have hfr7 := (hfr.trans hf6).step hl7.1 hBb
          have hBb7 : ∀ y ∈ rb q', w.heap.size ≤ y := by
            intro y hy
            rcases Nat.lt_or_ge y w6.heap.size with h | h
            · exact hBb y (hl7.2 y hy h)
            · exact Nat.le_trans (hfr.trans hf6).size h
          refine sgo ?_
          exact ⟨(j + 1, q', ks ++ [r], c'), ⟨by rw [List.length_append]; rfl, rfl, rfl, rfl, trivial⟩, ⟨by dsimp only; omega, by simp; omega, hst, by dsimp only; rw [List.length_append, rs32, List.map_append]; exact hR7, hIm7, hBb7, hfr7⟩, by dsimp only; omega⟩
        · rw [show keepN [r] = [] from by simp [keepN]; omega, List.append_nil] at hst
          have hgo : ∀ {A : Prop}, A → A := fun h => h
          by_cases h9 : r = 9
          · subst h9
            refine sgo ?_
            exact ⟨(j + 1, q, ks, c2), ⟨rfl, rfl, rfl, rfl, trivial⟩, ⟨by dsimp only; omega, by dsimp only; omega, hst, hR, hI, hBb, hfr⟩, by dsimp only; omega⟩
          · by_cases h10 : r = 10
            · subst h10
              refine sgo ?_
              exact ⟨(j + 1, q, ks, c2), ⟨rfl, rfl, rfl, rfl, trivial⟩, ⟨by dsimp only; omega, by dsimp only; omega, hst, hR, hI, hBb, hfr⟩, by dsimp only; omega⟩
            · obtain rfl : r = 13 := by omega
              refine sgo ?_
              exact ⟨(j + 1, q, ks, c2), ⟨rfl, rfl, rfl, rfl, trivial⟩, ⟨by dsimp only; omega, by dsimp only; omega, hst, hR, hI, hBb, hfr⟩, by dsimp only; omega⟩
      · obtain rfl : j = ts.length := by omega
        rw [List.take_length] at hke
        rw [← hke] at hR hkl ⊢
        refine sgo ?_
        refine wl ?_ (y_r2s (fun r hr => hgd3 r (List.mem_filter.1 hr).1) hR.sg rfl)
        refine sgo ?_
        (first | refine fp1 (.inl rfl) rfl rfl ?_ | refine fp2 (.inl rfl) rfl rfl rfl ?_ | refine fp3 (.inl rfl) rfl rfl rfl rfl ?_ | refine fp0 (.inr rfl) rfl ?_ | refine fp0 (.inl rfl) rfl ?_ | refine fp1 (.inr rfl) rfl rfl ?_); refine ⟨?_, by (first | exact Frm.refl _ | assumption | (refine Frm.trans ?_ (by assumption); first | exact Frm.refl _ | assumption))⟩; (try simp only [realB, rv_true, Nat.reduceBEq, cond_true, cond_false, entG, real_lif, updGL])
        rfl
      done
end Go.Proofs.Ytffaoehhhdcjjaa
