/-
  Our texts SvNm, SvPl1, SvLkA, SvLkB, SvLkC, SvLkD, SvLn, SvIn, SvInL, SvInN, SvEvC, SvEvN, SvJn, SvLqA, SvLkE, SvLkF, SvLkH, SvTpA, SvTpI, SvSpl, SvLpA, SvFv, SvPb, SvJmp, SvLpB, SvRf, SvTabF, SvKp, SvLpC, SvLqB, joined.
-/
import Derived.Test.YtffaoehhhdcjjaaDoorMg3
import Derived.Laws.MakeOwn
import Derived.Lib.LaidTab
import Derived.Lib.FieldsP
import Derived.ScopeJumps
/-
  Packages names and sieveref04: classes of bytes, small letters. Blocks of bytes that []byte(s) made.
-/
set_option linter.unusedSimpArgs false
set_option linter.unusedVariables false
set_option linter.unnecessarySimpa false
namespace Go.Sv
open Go Go.RowKit
/-- a block that holds the bytes s and may be written there -/
def OwnB (w : World) (b : Nat) (s : List UInt8) : Prop := ∃ C ty lo hi, w.heap[b]? = some (.cells C ty (lo, hi)) ∧ C.toList.take s.length = bs s ∧ s.length ≤ lo
section
variable {P : Program} {w w' : World} {b i : Nat} {s : List UInt8}
theorem OwnB.lt (h : OwnB w b s) : b < w.heap.size := by
  obtain ⟨C, ty, lo, hi, h, _⟩ := h
  exact (Array.getElem?_eq_some_iff.1 h).1
theorem OwnB.le {M : List Nat} (h : OwnB w b s) (hl : Le M w w') (hb : b ∉ M) : OwnB w' b s := by
  have := h.lt
  obtain ⟨C, ty, lo, hi, h, h2⟩ := h
  exact ⟨C, ty, lo, hi, by rw [hl.block b this hb]; exact h, h2⟩
theorem OwnB.frm (h : OwnB w b s) (hl : Frm w w') : OwnB w' b s := h.le (M := []) hl.le (by simp)
theorem OwnB.sg (h : OwnB w b s) : Sg w (pb b) (bs s) := by
  obtain ⟨C, ty, lo, hi, h, h2, _⟩ := h
  refine .inr ⟨_, rfl, fun i hi' => ?_⟩
  have e : (⟨b, 0, none⟩ : Addr).add i = ⟨b, i, none⟩ := by unfold Addr.add; split <;> simp_all
  rw [e, cell_of_row w b i C ty _ h, ← h2]
  rw [List.getElem?_take_of_lt (by simpa using hi')]
  simp
theorem OwnB.im {M : List Nat} (h : OwnB w b s) (hb : b ∉ M) : Im M w (pb b) (bs s) := by
  rcases h.sg with hh | ⟨a, ha, h1⟩
  · exact .inl hh
  · obtain rfl := Option.some.inj ha
    exact .inr ⟨_, rfl, h1, h.lt, hb⟩
theorem bs_set (s : List UInt8) (i : Nat) (x : UInt8) : bs (s.set i x) = (bs s).set i (byt x.toNat) := by simp [bs, List.map_set]
end
section
variable {P : Program} {n : Nat} {ds : Ctx} {ops : Array Oper} {Q : Exit → Ctx → Env → World → Prop} {rest : List Oper} {σ : GE} {w : World} {d : Nat} {ty t t' e : TypeId} {pos : String} {af : Array Edge} {x y : Operand} {zv : Value} {size bytes : Nat} {b i : Nat} {s : List UInt8}
/-- []byte(s), to be written -/
theorem wls2bo [hu : Und P t .string] [hu' : Und P t' (.slice e)] [he : Und P e (.int .u8)] (hx : evl (real σ) x = str s) (hs : s.length ≤ 9223372036854775807)
    (h : ∀ b c w', w.heap.size ≤ b → s.length ≤ c → c ≤ 9223372036854775807 → OwnB w' b s → Frm w w' → WL P n ds ops Q rest (real (updG σ d ⟨.slice (pb b) s.length c, true⟩)) w') :
    WL P n ds ops Q (⟨some d, .convert t t' x, ty, pos, af, none⟩ :: rest) (real σ) w := by
  let c := grownCap w s.length 0 e
  let C : Array Value := (s.toArray.map fun b => Value.int .u8 b.toNat) ++ Array.replicate (c - s.length) (.int .u8 0)
  have hge : s.length ≤ c := grownCap_ge w s.length 0 e
  have hcm : c ≤ maxLen := grownCap_le_maxLen w s.length 0 e (by unfold maxLen; omega)
  have hsz : C.size = c := by simp [C]; omega
  have hheap : (w.drew.alloc (.cells C e)).heap[w.heap.size]? = some (.cells C e) := heap_alloc_new w.drew _
  let w' := (w.drew.alloc (.cells C e)).freeze ⟨w.heap.size, C.size, none⟩ 1
  have hw' : w'.heap[w.heap.size]? = some (.cells C e (C.size, C.size + 1)) := by
    simp only [w', World.freeze, Nat.one_ne_zero, if_false, Array.getElem?_modify, if_true]
    rw [hheap]; simp
  have hother : ∀ k, k < w.heap.size → w'.heap[k]? = w.heap[k]? := by
    intro k hk
    simp only [w', World.freeze, Nat.one_ne_zero, if_false, Array.getElem?_modify]
    rw [if_neg (by omega)]
    exact Below.heap_alloc w.drew _ k hk
  refine wl (h w.heap.size c w' (Nat.le_refl _) hge (by unfold maxLen at hcm; omega) ?_ ?_) (Y.val ?_)
  · refine ⟨C, e, _, _, hw', ?_, by omega⟩
    have hl : s.length = (s.map fun b => Value.int .u8 b.toNat).length := by simp
    simp only [C, Array.toList_append, Array.toList_map]
    rw [hl, List.take_left' rfl]
    rfl
  · exact ⟨rfl, rfl, rfl, by simp [w', World.freeze], hother⟩
  · have e1 : (ByteArray.mk s.toArray).data = s.toArray := rfl
    simp only [execOp, hx, convert, underlying, Sem.run_bind, run_program, Result.andThen_ok, hu.ok, hu'.ok, he.ok, Sem.run_pure, Conv.stringToBytes, run_choose, Question.forced, size_str, newRow, run_newObj, markStringish, run_shape]
    have hshape : (w.drew.alloc (.cells C e)).shape? w.heap.size = some (e, C.size) := by simp only [World.shape?, hheap]
    have hr : (w.drew.heap.size) = w.heap.size := rfl
    simp only [Bool.false_eq_true, if_false, Result.andThen_ok, World.alloc_eq, e1]
    change (((Sem.run P (match (w.drew.alloc (.cells C e)).shape? w.heap.size with | some (_, n) => freeze { block := w.heap.size, off := n } 1 | _ => pure ()) (w.drew.alloc (.cells C e))).andThen _).andThen _) = _
    rw [hshape]
    simp only [run_freeze, Result.andThen_ok, Sem.run_pure]
    rfl
/-- a byte stored there -/
theorem wlstoreb [hi : Inf P t zv 1 bytes] {v : Nat} (hx : evl (real σ) x = ptrAt (pb b) i) (hy : evl (real σ) y = byt v) (ho : OwnB w b s) (hk : i < s.length) (hv : v < 256)
    (h : ∀ w', OwnB w' b (s.set i (UInt8.ofNat v)) → Le [b] w w' → WL P n ds ops Q rest (real σ) w') :
    WL P n ds ops Q (⟨none, .store t x y, ty, pos, af, none⟩ :: rest) (real σ) w := by
  obtain ⟨C, tt, lo, hi', ho, h2, h3⟩ := ho
  have e : (⟨b, 0, none⟩ : Addr).add i = ⟨b, i, none⟩ := by unfold Addr.add; split <;> simp_all
  have hlen : s.length ≤ C.size := by
    have := congrArg List.length h2
    simp [bs] at this; omega
  have hcell : w.cell? ⟨b, i, none⟩ = some C[i] := by simp [World.cell?, ho, show i < C.size from by omega]
  have hfro : w.frozen? ⟨b, i, none⟩ = false := by
    simp only [World.frozen?, ho, Bool.and_eq_false_iff, decide_eq_false_iff_not]
    left; omega
  have hst : (store (⟨b, i, none⟩ : Addr) (byt v)).run P w = .ok () (w.setRow b (C.setIfInBounds i (byt v))) := by
    rw [run_store P w _ (byt v) _ rfl, hcell]
    simp [hfro, setCell_eq_setRow w b i C tt _ (byt v) ho]
  refine wl0 (h (w.setRow b (C.setIfInBounds i (byt v))) ⟨_, tt, lo, hi', setRow_heap w b C _ tt _ ho, ?_, by simpa using h3⟩ (le_setRow w b _)) (Y.skip ?_)
  · rw [Array.toList_setIfInBounds, List.length_set, List.take_set, h2, bs_set]
    congr 2
    rw [UInt8.toNat_ofNat_of_lt' (by simpa using hv)]
  · simp only [execOp, hx, hy, Instr.storeAt, show ptrAt (pb b) i = .pointer (some ⟨b, i, none⟩) from by simp [e], Instr.sureAddr, Sem.run_bind, Sem.run_pure, Result.andThen_ok, storeVar, run_sizeOf (P := P) (t := t)]
    have e0 : (⟨b, i, none⟩ : Addr).add 0 = ⟨b, i, none⟩ := by unfold Addr.add; simp
    simp [storeCells, Value.cells, Sem.run_bind, e0, hst]
end
end Go.Sv
namespace Go.Proofs.YtffaoehhhdcjjaaDoor
open Go Go.Sv Go.RowKit

def upperR (c : Nat) : Bool := decide (65 ≤ c) && decide (c ≤ 90)
def letterR (c : Nat) : Bool := upperR c || (decide (97 ≤ c) && decide (c ≤ 122))
def digitR (c : Nat) : Bool := decide (48 ≤ c) && decide (c ≤ 57)
def valueR (c : Nat) : Int := if digitR c then (c : Int) - 48 else if 97 ≤ c ∧ c ≤ 102 then (c : Int) - 97 + 10 else if 65 ≤ c ∧ c ≤ 70 then (c : Int) - 65 + 10 else -1
def hexR (c : Nat) : Bool := decide (0 ≤ valueR c)
def lowN (c : Nat) : Nat := if upperR c then c + 32 else c
def lowR (l : List UInt8) : List UInt8 := l.map fun c => UInt8.ofNat (lowN c.toNat)

theorem upper_ok (c : Nat) (w : World) : PureC Tryd.prog 98 #[i32 c] w (.bool (upperR c)) := by
  refine enter (l := [i32 c]) Tryd.func98 rfl Tryd.ntmps98 (by kernel_rfl) rfl ?_
  refine sgo ?_
  (first | refine fp1 (.inl rfl) rfl rfl ?_ | refine fp2 (.inl rfl) rfl rfl rfl ?_ | refine fp3 (.inl rfl) rfl rfl rfl rfl ?_ | refine fp0 (.inr rfl) rfl ?_ | refine fp0 (.inl rfl) rfl ?_ | refine fp1 (.inr rfl) rfl rfl ?_); refine ⟨?_, by (first | exact Frm.refl _ | assumption | exact Go.Sv.Sep.frm (by assumption) | (refine Frm.trans ?_ (by assumption); first | exact Frm.refl _ | assumption))⟩; (try simp only [realB, rv_true, Nat.reduceBEq, cond_true, cond_false, entG, real_lif, updGL])
  refine congrArg Value.bool ?_
  unfold upperR
  rw [Bool.eq_iff_iff]
  simp only [pkb_or, pkb_and, Bool.or_eq_true, Bool.and_eq_true, decide_eq_true_eq]
  omega
theorem digit_ok (c : Nat) (w : World) : PureC Tryd.prog 72 #[i32 c] w (.bool (digitR c)) := by
  refine enter (l := [i32 c]) Tryd.func72 rfl Tryd.ntmps72 (by kernel_rfl) rfl ?_
  refine sgo ?_
  (first | refine fp1 (.inl rfl) rfl rfl ?_ | refine fp2 (.inl rfl) rfl rfl rfl ?_ | refine fp3 (.inl rfl) rfl rfl rfl rfl ?_ | refine fp0 (.inr rfl) rfl ?_ | refine fp0 (.inl rfl) rfl ?_ | refine fp1 (.inr rfl) rfl rfl ?_); refine ⟨?_, by (first | exact Frm.refl _ | assumption | exact Go.Sv.Sep.frm (by assumption) | (refine Frm.trans ?_ (by assumption); first | exact Frm.refl _ | assumption))⟩; (try simp only [realB, rv_true, Nat.reduceBEq, cond_true, cond_false, entG, real_lif, updGL])
  refine congrArg Value.bool ?_
  unfold digitR
  rw [Bool.eq_iff_iff]
  simp only [pkb_or, pkb_and, Bool.or_eq_true, Bool.and_eq_true, decide_eq_true_eq]
  omega
theorem digit4_ok (c : Nat) (w : World) : PureC Tryd.prog 55 #[i32 c] w (.bool (digitR c)) := by
  refine enter (l := [i32 c]) Tryd.func55 rfl Tryd.ntmps55 (by kernel_rfl) rfl ?_
  refine sgo ?_
  (first | refine fp1 (.inl rfl) rfl rfl ?_ | refine fp2 (.inl rfl) rfl rfl rfl ?_ | refine fp3 (.inl rfl) rfl rfl rfl rfl ?_ | refine fp0 (.inr rfl) rfl ?_ | refine fp0 (.inl rfl) rfl ?_ | refine fp1 (.inr rfl) rfl rfl ?_); refine ⟨?_, by (first | exact Frm.refl _ | assumption | exact Go.Sv.Sep.frm (by assumption) | (refine Frm.trans ?_ (by assumption); first | exact Frm.refl _ | assumption))⟩; (try simp only [realB, rv_true, Nat.reduceBEq, cond_true, cond_false, entG, real_lif, updGL])
  refine congrArg Value.bool ?_
  unfold digitR
  rw [Bool.eq_iff_iff]
  simp only [pkb_or, pkb_and, Bool.or_eq_true, Bool.and_eq_true, decide_eq_true_eq]
  omega
theorem letter_ok (c : Nat) (w : World) : PureC Tryd.prog 69 #[i32 c] w (.bool (letterR c)) := by
  refine enter (l := [i32 c]) Tryd.func69 rfl Tryd.ntmps69 (by kernel_rfl) rfl ?_
  refine sgo ?_
  refine wlpure (upper_ok c _) fun w1 hf1 => ?_
  refine sgo ?_
  (first | refine fp1 (.inl rfl) rfl rfl ?_ | refine fp2 (.inl rfl) rfl rfl rfl ?_ | refine fp3 (.inl rfl) rfl rfl rfl rfl ?_ | refine fp0 (.inr rfl) rfl ?_ | refine fp0 (.inl rfl) rfl ?_ | refine fp1 (.inr rfl) rfl rfl ?_); refine ⟨?_, by (first | exact Frm.refl _ | assumption | exact Go.Sv.Sep.frm (by assumption) | (refine Frm.trans ?_ (by assumption); first | exact Frm.refl _ | assumption))⟩; (try simp only [realB, rv_true, Nat.reduceBEq, cond_true, cond_false, entG, real_lif, updGL])
  refine congrArg Value.bool ?_
  unfold letterR upperR
  rw [Bool.eq_iff_iff]
  simp only [pkb_or, pkb_and, Bool.or_eq_true, Bool.and_eq_true, decide_eq_true_eq]
  omega
theorem value_ok (c : Nat) (hn : c < 256) (w : World) : PureC Tryd.prog 81 #[i32 c] w (int (valueR c)) := by
  refine enter (l := [i32 c]) Tryd.func81 rfl Tryd.ntmps81 (by kernel_rfl) rfl ?_
  refine sgo ?_
  refine wlpure (digit_ok c _) fun w1 hf1 => ?_
  refine sgo ?_
  (show WC _ _ _ _ _ _ _; first | refine WC_dec rfl (fun hc => ?_) (fun hc => ?_) | refine WC_cond rfl (fun hc => ?_) (fun hc => ?_))
  · refine sgo ?_
    (first | refine fp1 (.inl rfl) rfl rfl ?_ | refine fp2 (.inl rfl) rfl rfl rfl ?_ | refine fp3 (.inl rfl) rfl rfl rfl rfl ?_ | refine fp0 (.inr rfl) rfl ?_ | refine fp0 (.inl rfl) rfl ?_ | refine fp1 (.inr rfl) rfl rfl ?_); refine ⟨?_, by (first | exact Frm.refl _ | assumption | exact Go.Sv.Sep.frm (by assumption) | (refine Frm.trans ?_ (by assumption); first | exact Frm.refl _ | assumption))⟩; (try simp only [realB, rv_true, Nat.reduceBEq, cond_true, cond_false, entG, real_lif, updGL])
    refine congrArg int ?_
    simp [valueR, hc]
  · have hd := hc
    refine sgo ?_
    (show WC _ _ _ _ _ _ _; first | refine WC_dec rfl (fun hc => ?_) (fun hc => ?_) | refine WC_cond rfl (fun hc => ?_) (fun hc => ?_))
    · refine sgo ?_
      (first | refine fp1 (.inl rfl) rfl rfl ?_ | refine fp2 (.inl rfl) rfl rfl rfl ?_ | refine fp3 (.inl rfl) rfl rfl rfl rfl ?_ | refine fp0 (.inr rfl) rfl ?_ | refine fp0 (.inl rfl) rfl ?_ | refine fp1 (.inr rfl) rfl rfl ?_); refine ⟨?_, by (first | exact Frm.refl _ | assumption | exact Go.Sv.Sep.frm (by assumption) | (refine Frm.trans ?_ (by assumption); first | exact Frm.refl _ | assumption))⟩; (try simp only [realB, rv_true, Nat.reduceBEq, cond_true, cond_false, entG, real_lif, updGL])
      refine congrArg int ?_
      simp only [pkb_and, Bool.and_eq_true, decide_eq_true_eq] at hc
      have h1 : 97 ≤ c ∧ c ≤ 102 := by omega
      simp [valueR, hd, h1]
    · have hl := hc
      simp only [pkb_and, Bool.and_eq_false_iff, decide_eq_false_iff_not] at hl
      have h1 : ¬ (97 ≤ c ∧ c ≤ 102) := by omega
      refine sgo ?_
      (show WC _ _ _ _ _ _ _; first | refine WC_dec rfl (fun hc => ?_) (fun hc => ?_) | refine WC_cond rfl (fun hc => ?_) (fun hc => ?_))
      · refine sgo ?_
        (first | refine fp1 (.inl rfl) rfl rfl ?_ | refine fp2 (.inl rfl) rfl rfl rfl ?_ | refine fp3 (.inl rfl) rfl rfl rfl rfl ?_ | refine fp0 (.inr rfl) rfl ?_ | refine fp0 (.inl rfl) rfl ?_ | refine fp1 (.inr rfl) rfl rfl ?_); refine ⟨?_, by (first | exact Frm.refl _ | assumption | exact Go.Sv.Sep.frm (by assumption) | (refine Frm.trans ?_ (by assumption); first | exact Frm.refl _ | assumption))⟩; (try simp only [realB, rv_true, Nat.reduceBEq, cond_true, cond_false, entG, real_lif, updGL])
        refine congrArg int ?_
        simp only [pkb_and, Bool.and_eq_true, decide_eq_true_eq] at hc
        have h2 : 65 ≤ c ∧ c ≤ 70 := by omega
        simp [valueR, hd, h1, h2]
      · have hm := hc
        simp only [pkb_and, Bool.and_eq_false_iff, decide_eq_false_iff_not] at hm
        have h2 : ¬ (65 ≤ c ∧ c ≤ 70) := by omega
        refine sgo ?_
        (first | refine fp1 (.inl rfl) rfl rfl ?_ | refine fp2 (.inl rfl) rfl rfl rfl ?_ | refine fp3 (.inl rfl) rfl rfl rfl rfl ?_ | refine fp0 (.inr rfl) rfl ?_ | refine fp0 (.inl rfl) rfl ?_ | refine fp1 (.inr rfl) rfl rfl ?_); refine ⟨?_, by (first | exact Frm.refl _ | assumption | exact Go.Sv.Sep.frm (by assumption) | (refine Frm.trans ?_ (by assumption); first | exact Frm.refl _ | assumption))⟩; (try simp only [realB, rv_true, Nat.reduceBEq, cond_true, cond_false, entG, real_lif, updGL])
        refine congrArg int ?_
        simp only [valueR, hd, h1, h2, if_false, Bool.false_eq_true]
theorem hex_ok (c : Nat) (hn : c < 256) (w : World) : PureC Tryd.prog 101 #[i32 c] w (.bool (hexR c)) := by
  refine enter (l := [i32 c]) Tryd.func101 rfl Tryd.ntmps101 (by kernel_rfl) rfl ?_
  refine sgo ?_
  refine wlpure (value_ok c hn _) fun w1 hf1 => ?_
  refine sgo ?_
  (first | refine fp1 (.inl rfl) rfl rfl ?_ | refine fp2 (.inl rfl) rfl rfl rfl ?_ | refine fp3 (.inl rfl) rfl rfl rfl rfl ?_ | refine fp0 (.inr rfl) rfl ?_ | refine fp0 (.inl rfl) rfl ?_ | refine fp1 (.inr rfl) rfl rfl ?_); refine ⟨?_, by (first | exact Frm.refl _ | assumption | exact Go.Sv.Sep.frm (by assumption) | (refine Frm.trans ?_ (by assumption); first | exact Frm.refl _ | assumption))⟩; (try simp only [realB, rv_true, Nat.reduceBEq, cond_true, cond_false, entG, real_lif, updGL])
  rfl
theorem at_lt (l : List UInt8) (i : Nat) : at0 l i < 256 := by simp only [at0]; exact UInt8.toNat_lt _
/-- the first i bytes are small -/
def lowTo (l : List UInt8) (i : Nat) : List UInt8 := lowR (l.take i) ++ l.drop i
theorem lowTo_len (l : List UInt8) (i : Nat) : (lowTo l i).length = l.length := by simp [lowTo, lowR]; omega
theorem lowTo_zero (l : List UInt8) : lowTo l 0 = l := by simp [lowTo, lowR]
theorem lowTo_all (l : List UInt8) : lowTo l l.length = lowR l := by simp [lowTo]
theorem lowTo_at (l : List UInt8) (i : Nat) : at0 (lowTo l i) i = at0 l i := by
  simp only [at0, lowTo]
  rw [List.getElem?_append]
  by_cases h : i < l.length
  · simp [lowR, Nat.min_eq_left (Nat.le_of_lt h)]
  · rw [if_neg (by simp [lowR]; omega), List.getElem?_eq_none (by simp; omega), List.getElem?_eq_none (by omega)]
theorem lowTo_succ (l : List UInt8) (i : Nat) (h : i < l.length) : lowTo l (i + 1) = (lowTo l i).set i (UInt8.ofNat (lowN (at0 l i))) := by
  have e : at0 l i = l[i].toNat := by simp [at0, h]
  simp only [lowTo, e]
  rw [List.set_append_right _ _ (by simp [lowR]; omega)]
  simp only [lowR, List.length_map, List.length_take, Nat.min_eq_left (Nat.le_of_lt h), Nat.sub_self]
  rw [List.drop_eq_getElem_cons h, List.set_cons_zero, List.take_succ_eq_append_getElem h, List.map_append]
  simp only [List.map_cons, List.map_nil, List.append_assoc, List.cons_append, List.nil_append]
theorem lowTo_keep (l : List UInt8) (i : Nat) (h : i < l.length) (hu : upperR (at0 l i) = false) : lowTo l (i + 1) = lowTo l i := by
  rw [lowTo_succ l i h, lowN, hu, ← lowTo_at l i]
  have hl : i < (lowTo l i).length := by rw [lowTo_len]; exact h
  have : UInt8.ofNat (at0 (lowTo l i) i) = (lowTo l i)[i] := by simp [at0, hl]
  simp only [Bool.false_eq_true, if_false]
  rw [this, List.set_getElem_self]
set_option maxHeartbeats 1000000 in
theorem lower_ok (l : List UInt8) (hb : l.length ≤ 4611686018427387904) (w : World) : PureC Tryd.prog 32 #[str l] w (str (lowR l)) := by
  refine enter (l := [str l]) Tryd.func32 rfl Tryd.ntmps32 (by kernel_rfl) rfl ?_
  refine sgo ?_
  refine wls2bo rfl (by omega) fun b c w1 hb1 hc1 hc2 ho hf1 => ?_
  refine sgo ?_
  refine wcloop (X := Nat) (fun x => [(3, .slice (pb b) l.length c), (8, .slice (pb b) l.length c), (9, int l.length), (10, int x)])
    (fun x wr => x ≤ l.length ∧ OwnB wr b (lowTo l x) ∧ Frm w wr) (fun x => l.length - x) 0 ⟨rfl, rfl, rfl, rfl, trivial⟩ ⟨by omega, by rw [lowTo_zero]; exact ho, hf1⟩ ?_
  rintro i wr ρ ⟨hi, ho, hfr⟩
  refine sgo ?_
  (show WC _ _ _ _ _ _ _; first | refine WC_dec rfl (fun hc => ?_) (fun hc => ?_) | refine WC_cond rfl (fun hc => ?_) (fun hc => ?_))
  · have hil : i < l.length := by omega
    have hll := lowTo_len l i
    have hld : (bs (lowTo l i))[i]? = some (byt (at0 l i)) := by
      rw [bs_get (by omega)]
      exact congrArg (fun n : Nat => some (byt n)) (lowTo_at l i)
    have h256 := at_lt l i
    refine sgo ?_
    refine wl ?_ (y_load (i := i) rfl ho.sg hld)
    have hup := lowTo_succ l i hil
    have hkp := lowTo_keep l i hil
    generalize at0 l i = a at *
    refine sgo ?_
    (show WC _ _ _ _ _ _ _; first | refine WC_dec rfl (fun hc => ?_) (fun hc => ?_) | refine WC_cond rfl (fun hc => ?_) (fun hc => ?_))
    · simp only [pkb_and, Bool.and_eq_true, decide_eq_true_eq] at hc
      have h65 : 65 ≤ a ∧ a ≤ 90 := by omega
      rw [lowN, show upperR a = true from by simp [upperR, h65], if_pos rfl] at hup
      refine sgo ?_
      have e : ((a : Int) + 97 - 65) = ((a + 32 : Nat) : Int) := by omega
      refine wlstoreb (v := a + 32) rfl (congrArg byt e) ho (by omega) (by omega) fun w2 ho2 hl2 => ?_
      have hfr2 := hfr.step hl2 (by intro x hx; simp only [List.mem_singleton] at hx; subst hx; exact hb1)
      refine sgo ?_
      exact ⟨i + 1, ⟨rfl, rfl, rfl, rfl, trivial⟩, ⟨by omega, by rw [hup]; exact ho2, hfr2⟩, by omega⟩
    · simp only [pkb_and, Bool.and_eq_false_iff, decide_eq_false_iff_not] at hc
      have h65 : ¬ (65 ≤ a ∧ a ≤ 90) := by omega
      replace hkp := hkp (by simp only [upperR, ← Bool.decide_and]; exact decide_eq_false h65)
      refine sgo ?_
      exact ⟨i + 1, ⟨rfl, rfl, rfl, rfl, trivial⟩, ⟨by omega, by rw [hkp]; exact ho, hfr⟩, by omega⟩
  · obtain rfl : i = l.length := by omega
    have hll := lowTo_len l l.length
    rw [lowTo_all] at ho hll
    refine sgo ?_
    refine wl ?_ (y_b2s (s := lowR l) (by rw [hll]; rfl) ho.sg)
    refine sgo ?_
    (first | refine fp1 (.inl rfl) rfl rfl ?_ | refine fp2 (.inl rfl) rfl rfl rfl ?_ | refine fp3 (.inl rfl) rfl rfl rfl rfl ?_ | refine fp0 (.inr rfl) rfl ?_ | refine fp0 (.inl rfl) rfl ?_ | refine fp1 (.inr rfl) rfl rfl ?_); refine ⟨?_, by (first | exact Frm.refl _ | assumption | exact Go.Sv.Sep.frm (by assumption) | (refine Frm.trans ?_ (by assumption); first | exact Frm.refl _ | assumption))⟩; (try simp only [realB, rv_true, Nat.reduceBEq, cond_true, cond_false, entG, real_lif, updGL])
end Go.Proofs.YtffaoehhhdcjjaaDoor

/-
  Runes as bytes, read again.
-/
set_option linter.unusedSimpArgs false
set_option linter.unusedVariables false
set_option linter.unnecessarySimpa false
namespace Go.Proofs.YtffaoehhhdcjjaaDoor
open Go Go.Sv Go.RowKit

theorem piece_enc (r : Nat) (hg : Good r) (rest : List UInt8) : pieceR (encR r ++ rest) = ((r : Int), (encR r).length, true) := by
  obtain ⟨hg1, hg2⟩ := hg
  have fin : ∀ l : List UInt8, (pieceR l).2.2 = true → Right l := right_of
  unfold encR encN
  by_cases h1 : r < 128
  · rw [if_pos h1]
    generalize hl : (([r] : List Nat).map UInt8.ofNat ++ rest : List UInt8) = l
    have e0 : at0 l 0 = r := by subst hl; simp [at0]; omega
    have hr := fin l (right1 l (by omega))
    rcases hr with ⟨g1, hp⟩ | ⟨gl, g1, g2, g3, g4, hp⟩ | ⟨gl, g1, g2, g3, g4, g5, g6, g7, g8, hp⟩ | ⟨gl, g1, g2, g3, g4, g5, g6, g7, g8, g9, g10, hp⟩
    · rw [hp, e0]; rfl
    all_goals omega
  rw [if_neg h1]
  by_cases h2 : r < 2048
  · rw [if_pos h2]
    generalize hl : (([192 + r / 64, 128 + r % 64] : List Nat).map UInt8.ofNat ++ rest : List UInt8) = l
    have e0 : at0 l 0 = 192 + r / 64 := by subst hl; simp [at0]; omega
    have e1 : at0 l 1 = 128 + r % 64 := by subst hl; simp [at0]; omega
    have hr := fin l (right2 l (by subst hl; simp) (by omega))
    rcases hr with ⟨g1, hp⟩ | ⟨gl, g1, g2, g3, g4, hp⟩ | ⟨gl, g1, g2, g3, g4, g5, g6, g7, g8, hp⟩ | ⟨gl, g1, g2, g3, g4, g5, g6, g7, g8, g9, g10, hp⟩
    · omega
    · rw [hp, e0, e1]; simp; omega
    all_goals omega
  rw [if_neg h2]
  by_cases h3 : r < 65536
  · rw [if_pos h3]
    generalize hl : (([224 + r / 4096, 128 + r / 64 % 64, 128 + r % 64] : List Nat).map UInt8.ofNat ++ rest : List UInt8) = l
    have e0 : at0 l 0 = 224 + r / 4096 := by subst hl; simp [at0]; omega
    have e1 : at0 l 1 = 128 + r / 64 % 64 := by subst hl; simp [at0]; omega
    have e2 : at0 l 2 = 128 + r % 64 := by subst hl; simp [at0]; omega
    have hr := fin l (right3 l (by subst hl; simp) (by omega))
    rcases hr with ⟨g1, hp⟩ | ⟨gl, g1, g2, g3, g4, hp⟩ | ⟨gl, g1, g2, g3, g4, g5, g6, g7, g8, hp⟩ | ⟨gl, g1, g2, g3, g4, g5, g6, g7, g8, g9, g10, hp⟩
    · omega
    · omega
    · rw [hp, e0, e1, e2]; simp; omega
    · omega
  rw [if_neg h3]
  generalize hl : (([240 + r / 262144, 128 + r / 4096 % 64, 128 + r / 64 % 64, 128 + r % 64] : List Nat).map UInt8.ofNat ++ rest : List UInt8) = l
  have e0 : at0 l 0 = 240 + r / 262144 := by subst hl; simp [at0]; omega
  have e1 : at0 l 1 = 128 + r / 4096 % 64 := by subst hl; simp [at0]; omega
  have e2 : at0 l 2 = 128 + r / 64 % 64 := by subst hl; simp [at0]; omega
  have e3 : at0 l 3 = 128 + r % 64 := by subst hl; simp [at0]; omega
  have hr := fin l (right4 l (by subst hl; simp) (by omega))
  rcases hr with ⟨g1, hp⟩ | ⟨gl, g1, g2, g3, g4, hp⟩ | ⟨gl, g1, g2, g3, g4, g5, g6, g7, g8, hp⟩ | ⟨gl, g1, g2, g3, g4, g5, g6, g7, g8, g9, g10, hp⟩
  · omega
  · omega
  · omega
  · rw [hp, e0, e1, e2, e3]; simp; omega

theorem drop_enc (r : Nat) (rest : List UInt8) : (encR r ++ rest).drop (encR r).length = rest := List.drop_left
theorem runesN_flat : ∀ rs : List Nat, (∀ r ∈ rs, Good r) → runesN (rs.flatMap encR) = rs
  | [], _ => rfl
  | r :: rs, h => by
    have h4 := encR_len4 r
    rw [List.flatMap_cons, runesN_cons _ (by simp; omega), piece_enc r (h r List.mem_cons_self)]
    dsimp only
    rw [drop_enc, runesN_flat rs fun x hx => h x (List.mem_cons_of_mem _ hx), Int.toNat_natCast]
theorem valid_flat : ∀ rs : List Nat, (∀ r ∈ rs, Good r) → validR (rs.flatMap encR) = true
  | [], _ => rfl
  | r :: rs, h => by
    have h4 := encR_len4 r
    rw [List.flatMap_cons]
    refine valid_back _ (by simp; omega) ?_ ?_
    · rw [piece_enc r (h r List.mem_cons_self)]
    · rw [piece_enc r (h r List.mem_cons_self)]
      dsimp only
      rw [drop_enc]
      exact valid_flat rs fun x hx => h x (List.mem_cons_of_mem _ hx)
theorem valid_mend (l : List UInt8) : validR (mendR l) = true := valid_flat _ (runesN_good l)
theorem runesN_mend (l : List UInt8) : runesN (mendR l) = runesN l := runesN_flat _ (runesN_good l)
end Go.Proofs.YtffaoehhhdcjjaaDoor

/-
  Package link: schemes; what is stripped.
-/
set_option linter.unusedSimpArgs false
set_option linter.unusedVariables false
set_option linter.unnecessarySimpa false
namespace Go.Sv
open Go Go.RowKit
section
variable {P : Program} {n : Nat} {ds : Ctx} {ops : Array Oper} {Q : Exit → Ctx → Env → World → Prop} {rest : List Oper} {σ : GE} {w : World} {d : Nat} {ty t e : TypeId} {pos : String} {af : Array Edge} {x y : Operand} {zv : Value} {size bytes c : Nat} {kl kc : IntKind}
/-- make of no elements, with room for c -/
theorem wlmake0 [hu : Und P t (.slice e)] [hi : Inf P e zv size bytes] (h : ∀ b w', w.heap.size ≤ b → Row w' size (pb b) 0 c [] → Frm w w' → WL P n ds ops Q rest (real (updG σ d ⟨.slice (pb b) 0 c, true⟩)) w')
    (hx : evl (real σ) x = .int kl 0 := by rfl) (hy : evl (real σ) y = .int kc c := by rfl) (hb : bytes * c ≤ 281474976710656 := by omega) (hc : c ≤ 9223372036854775807 := by omega) :
    WL P n ds ops Q (⟨some d, .makeSlice t x y, ty, pos, af, none⟩ :: rest) (real σ) w := by
  obtain ⟨i, h1, h2, h3, h4⟩ := inf_size (P := P) (t := e)
  subst h3 h4
  have hbI : (i.bytes : Int) * (c : Int) ≤ 281474976710656 := by
    have h : ((i.bytes * c : Nat) : Int) ≤ 281474976710656 := by omega
    rwa [Int.natCast_mul] at h
  have hr := run_make (P := P) w t e i zv hu.ok h1 h2 kl kc 0 c (Int.le_refl _) (by omega) hbI (by omega)
  simp only [Int.toNat_zero, Int.toNat_natCast] at hr
  refine wl (h w.heap.size (w.alloc (.cells (madeCells zv.cells (c * i.size)) e)) (Nat.le_refl _) ?_ (frm_alloc w _)) (Y.val ?_)
  · refine ⟨by simp, .inr ⟨_, 0, _, _, rfl, heap_alloc_new _ _, by omega, hc, by rw [size_madeCells]; omega, by simp⟩⟩
  · simp only [execOp, hx, hy, Sem.run_bind]
    rw [hr]
    rfl
end
end Go.Sv
namespace Go.Proofs.YtffaoehhhdcjjaaDoor
open Go Go.Sv Go.RowKit

def schB (c : Nat) : Bool := letterR c || digitR c || decide (c = 43 ∨ c = 45 ∨ c = 46)
theorem schemeByte_ok (c : Nat) (hn : c < 256) (w : World) : PureC Tryd.prog 38 #[byt c] w (.bool (schB c)) := by
  refine enter (l := [byt c]) Tryd.func38 rfl Tryd.ntmps38 (by kernel_rfl) rfl ?_
  refine sgo ?_
  refine wlpure (letter_ok c _) fun w1 hf1 => ?_
  refine sgo ?_
  refine wlcallgp (vals := [i32 c]) (fun _ => digit_ok c _) fun w2 hf2 => ?_
  refine sgo ?_
  (first | refine fp1 (.inl rfl) rfl rfl ?_ | refine fp2 (.inl rfl) rfl rfl rfl ?_ | refine fp3 (.inl rfl) rfl rfl rfl rfl ?_ | refine fp0 (.inr rfl) rfl ?_ | refine fp0 (.inl rfl) rfl ?_ | refine fp1 (.inr rfl) rfl rfl ?_); refine ⟨?_, by (first | exact Frm.refl _ | assumption | exact Go.Sv.Sep.frm (by assumption) | (refine Frm.trans ?_ (by assumption); first | exact Frm.refl _ | assumption))⟩; (try simp only [realB, rv_true, Nat.reduceBEq, cond_true, cond_false, entG, real_lif, updGL])
  refine congrArg Value.bool ?_
  unfold schB
  rw [Bool.eq_iff_iff]
  simp only [pkb_or]
  grind
/-- a scheme's end, behind its first byte -/
def schF : List UInt8 → Nat → Nat × Bool
  | [], _ => (0, false)
  | c :: t, i => if c.toNat = 58 then (i, true) else if schB c.toNat then schF t (i + 1) else (0, false)
def schemeR (l : List UInt8) : Nat × Bool := if l = [] ∨ letterR (at0 l 0) = false then (0, false) else schF (l.drop 1) 1
theorem schF_at (l : List UInt8) (i : Nat) (h : i < l.length) : schF (l.drop i) i = if at0 l i = 58 then (i, true) else if schB (at0 l i) then schF (l.drop (i + 1)) (i + 1) else (0, false) := by
  rw [List.drop_eq_getElem_cons h, schF]
  simp [at0, h]
theorem schF_le : ∀ (l : List UInt8) (i : Nat), (schF l i).1 ≤ i + l.length
  | [], i => by simp [schF]
  | c :: t, i => by
    have := schF_le t (i + 1)
    simp only [schF]
    repeat' split
    · simp
    · simp only [List.length_cons]; omega
    · simp
theorem schemeR_le (l : List UInt8) : (schemeR l).1 ≤ l.length := by
  unfold schemeR
  split
  · simp
  · rename_i h
    have := schF_le (l.drop 1) 1
    cases l with
    | nil => simp at h
    | cons c t => simp at this ⊢; omega
set_option maxHeartbeats 1000000 in
theorem scheme_ok (l : List UInt8) (hb : l.length ≤ 4611686018427387904) (w : World) : PureC Tryd.prog 31 #[str l] w (.tuple #[int (schemeR l).1, .bool (schemeR l).2]) := by
  by_cases hl : l = []
  · subst hl
    refine enter (l := [str []]) Tryd.func31 rfl Tryd.ntmps31 (by kernel_rfl) rfl ?_
    refine sgo ?_
    refine wlcallgp (vals := [i32 0]) (fun _ => letter_ok 0 _) fun w1 hf1 => ?_
    refine sgo ?_
    (first | refine fp1 (.inl rfl) rfl rfl ?_ | refine fp2 (.inl rfl) rfl rfl rfl ?_ | refine fp3 (.inl rfl) rfl rfl rfl rfl ?_ | refine fp0 (.inr rfl) rfl ?_ | refine fp0 (.inl rfl) rfl ?_ | refine fp1 (.inr rfl) rfl rfl ?_); refine ⟨?_, by (first | exact Frm.refl _ | assumption | exact Go.Sv.Sep.frm (by assumption) | (refine Frm.trans ?_ (by assumption); first | exact Frm.refl _ | assumption))⟩; (try simp only [realB, rv_true, Nat.reduceBEq, cond_true, cond_false, entG, real_lif, updGL])
    rfl
  have hlen := List.length_pos_iff.2 hl
  refine enter (l := [str l]) Tryd.func31 rfl Tryd.ntmps31 (by kernel_rfl) rfl ?_
  refine sgo ?_
  have h256 := at_lt l 0
  refine wlcallgp (vals := [i32 (at0 l 0)]) (fun _ => letter_ok (at0 l 0) _) fun w1 hf1 => ?_
  refine sgo ?_
  (show WC _ _ _ _ _ _ _; first | refine WC_dec rfl (fun hc => ?_) (fun hc => ?_) | refine WC_cond rfl (fun hc => ?_) (fun hc => ?_))
  · simp only [pkb_or, Bool.or_eq_true, decide_eq_true_eq, Bool.not_eq_true'] at hc
    refine sgo ?_
    (first | refine fp1 (.inl rfl) rfl rfl ?_ | refine fp2 (.inl rfl) rfl rfl rfl ?_ | refine fp3 (.inl rfl) rfl rfl rfl rfl ?_ | refine fp0 (.inr rfl) rfl ?_ | refine fp0 (.inl rfl) rfl ?_ | refine fp1 (.inr rfl) rfl rfl ?_); refine ⟨?_, by (first | exact Frm.refl _ | assumption | exact Go.Sv.Sep.frm (by assumption) | (refine Frm.trans ?_ (by assumption); first | exact Frm.refl _ | assumption))⟩; (try simp only [realB, rv_true, Nat.reduceBEq, cond_true, cond_false, entG, real_lif, updGL])
    rw [schemeR, if_pos hc]
    rfl
  · simp only [pkb_or, Bool.or_eq_false_iff, decide_eq_false_iff_not, Bool.not_eq_false'] at hc
    have hs : schemeR l = schF (l.drop 1) 1 := by
      rw [schemeR, if_neg (by simp [hl, hc.2])]
    rw [hs]
    clear hc
    refine sgo ?_
    refine wcloop (X := Nat) (fun x => [(0, str l), (4, int x)])
      (fun x wr => x ≤ l.length ∧ schF (l.drop x) x = schF (l.drop 1) 1 ∧ Frm w wr) (fun x => l.length - x) 1 ⟨rfl, rfl, trivial⟩ ⟨by omega, rfl, hf1⟩ ?_
    rintro i wr ρ ⟨hi, he, hfr⟩
    refine sgo ?_
    (show WC _ _ _ _ _ _ _; first | refine WC_dec rfl (fun hc => ?_) (fun hc => ?_) | refine WC_cond rfl (fun hc => ?_) (fun hc => ?_))
    · have hil : i < l.length := by omega
      have hstep := schF_at l i hil
      rw [he] at hstep
      rw [hstep]
      have h2 := at_lt l i
      refine sgo ?_
      (show WC _ _ _ _ _ _ _; first | refine WC_dec rfl (fun hc => ?_) (fun hc => ?_) | refine WC_cond rfl (fun hc => ?_) (fun hc => ?_))
      · rw [if_pos (by simp only [at0]; omega)]
        refine sgo ?_
        (first | refine fp1 (.inl rfl) rfl rfl ?_ | refine fp2 (.inl rfl) rfl rfl rfl ?_ | refine fp3 (.inl rfl) rfl rfl rfl rfl ?_ | refine fp0 (.inr rfl) rfl ?_ | refine fp0 (.inl rfl) rfl ?_ | refine fp1 (.inr rfl) rfl rfl ?_); refine ⟨?_, by (first | exact Frm.refl _ | assumption | exact Go.Sv.Sep.frm (by assumption) | (refine Frm.trans ?_ (by assumption); first | exact Frm.refl _ | assumption))⟩; (try simp only [realB, rv_true, Nat.reduceBEq, cond_true, cond_false, entG, real_lif, updGL])
      · rw [if_neg (by simp only [at0]; omega)] at hstep ⊢
        refine sgo ?_
        refine wlpure (schemeByte_ok (at0 l i) h2 _) fun w2 hf2 => ?_
        have hfr2 := hfr.trans hf2
        refine sgo ?_
        (show WC _ _ _ _ _ _ _; first | refine WC_dec rfl (fun hc => ?_) (fun hc => ?_) | refine WC_cond rfl (fun hc => ?_) (fun hc => ?_))
        · simp only [Bool.not_eq_true'] at hc
          rw [if_neg (by simp [hc])]
          refine sgo ?_
          (first | refine fp1 (.inl rfl) rfl rfl ?_ | refine fp2 (.inl rfl) rfl rfl rfl ?_ | refine fp3 (.inl rfl) rfl rfl rfl rfl ?_ | refine fp0 (.inr rfl) rfl ?_ | refine fp0 (.inl rfl) rfl ?_ | refine fp1 (.inr rfl) rfl rfl ?_); refine ⟨?_, by (first | exact Frm.refl _ | assumption | exact Go.Sv.Sep.frm (by assumption) | (refine Frm.trans ?_ (by assumption); first | exact Frm.refl _ | assumption))⟩; (try simp only [realB, rv_true, Nat.reduceBEq, cond_true, cond_false, entG, real_lif, updGL])
          rfl
        · simp only [Bool.not_eq_false'] at hc
          rw [if_pos hc] at hstep ⊢
          refine sgo ?_
          exact ⟨i + 1, ⟨rfl, rfl, trivial⟩, ⟨by omega, rfl, hfr2⟩, by omega⟩
    · obtain rfl : i = l.length := by omega
      rw [List.drop_length] at he
      rw [← he]
      refine sgo ?_
      (first | refine fp1 (.inl rfl) rfl rfl ?_ | refine fp2 (.inl rfl) rfl rfl rfl ?_ | refine fp3 (.inl rfl) rfl rfl rfl rfl ?_ | refine fp0 (.inr rfl) rfl ?_ | refine fp0 (.inl rfl) rfl ?_ | refine fp1 (.inr rfl) rfl rfl ?_); refine ⟨?_, by (first | exact Frm.refl _ | assumption | exact Go.Sv.Sep.frm (by assumption) | (refine Frm.trans ?_ (by assumption); first | exact Frm.refl _ | assumption))⟩; (try simp only [realB, rv_true, Nat.reduceBEq, cond_true, cond_false, entG, real_lif, updGL])
      rfl

theorem gdec {p : Prop} [Decidable p] (h : (true && (decide p == true)) = true) : p := by simpa using h
/-- what is left of runes behind leading blanks and controls -/
def cutL (rs : List Nat) : List Nat := rs.dropWhile fun r => decide (r ≤ 32)
def cutT (rs : List Nat) : List Nat := (cutL rs.reverse).reverse
def keepN (rs : List Nat) : List Nat := rs.filter fun r => decide (r ≠ 9 ∧ r ≠ 10 ∧ r ≠ 13)
def stripN (rs : List Nat) : List Nat := keepN (cutT (cutL rs))
def stripR (l : List UInt8) : List UInt8 := (stripN (runesN l)).flatMap encR
theorem cutL_at (rs : List Nat) (i : Nat) (h : i < rs.length) : cutL (rs.drop i) = if rs[i]?.getD 0 ≤ 32 then cutL (rs.drop (i + 1)) else rs.drop i := by
  rw [List.drop_eq_getElem_cons h, cutL, List.dropWhile_cons]
  simp [h, cutL]
theorem cutT_at (rs : List Nat) (i : Nat) (h : i < rs.length) : cutT (rs.take (i + 1)) = if rs[i]?.getD 0 ≤ 32 then cutT (rs.take i) else rs.take (i + 1) := by
  rw [List.take_succ_eq_append_getElem h, cutT, List.reverse_append, cutL]
  simp only [List.reverse_cons, List.reverse_nil, List.nil_append, List.cons_append, List.dropWhile_cons]
  simp only [List.getElem?_eq_getElem h, Option.getD_some, decide_eq_true_eq]
  split
  · rfl
  · simp
theorem rs32_drop (rs : List Nat) (i : Nat) : (rs32 rs).drop i = rs32 (rs.drop i) := by simp [rs32, List.map_drop]
theorem rs32_take (rs : List Nat) (i : Nat) : (rs32 rs).take i = rs32 (rs.take i) := by simp [rs32, List.map_take]

set_option maxHeartbeats 1000000 in
theorem strip_ok (l : List UInt8) (hb : l.length ≤ 1073741824) (w : World) : PureC Tryd.prog 9 #[str l] w (str (stripR l)) := by
  refine enter (l := [str l]) Tryd.func9 rfl Tryd.ntmps9 (by kernel_rfl) rfl ?_
  refine sgo ?_
  refine wlpure (mend_ok l hb _) fun w1 hf1 => ?_
  have hml := mendR_len l
  refine sgo ?_
  refine wls2r (valid_mend l) (by omega) fun b c w2 hb2 hR2 hf2 => ?_
  rw [runesN_mend] at hR2 ⊢
  have hfr2 := hf1.trans hf2
  have hcap := hR2.le_cap
  have hrl := runesN_len l
  have hgd := runesN_good l
  have hI2 := hR2.im (M := []) (by simp)
  unfold stripR stripN
  generalize runesN l = rs at *
  refine sgo ?_
  refine wcloop (X := Nat × Option Addr × Nat) (fun x => [(3, .slice x.2.1 (rs.length - x.1) x.2.2)])
    (fun x wr => x.1 ≤ rs.length ∧ rs.length - x.1 ≤ x.2.2 ∧ x.2.2 ≤ 9223372036854775807 ∧ Im [] wr x.2.1 (rs32 (rs.drop x.1)) ∧ cutL (rs.drop x.1) = cutL rs ∧ Frm w wr) (fun x => rs.length - x.1) (0, pb b, c) ⟨rfl, trivial⟩ ⟨by omega, hcap.1, hcap.2, hI2, rfl, hfr2⟩ ?_
  rintro ⟨i, p, c1⟩ wr ρ ⟨hi, hc1, hc2, hI, he, hfr⟩
  dsimp only at hi hc1 hc2 hI he ⊢
  have hdl : (rs32 (rs.drop i)).length = rs.length - i := by simp [rs32]
  have hsome : 0 < rs.length - i → ∃ a, p = some a := fun h => hI.some (by omega)
  have hget : 0 < rs.length - i → (rs32 (rs.drop i))[0]? = some (i32 (rs[i]?.getD 0 : Nat)) := fun h => by
    exact rs32_get (by simp [show i < rs.length from by omega])
  have hcut := cutL_at rs i
  generalize rs[i]?.getD 0 = r at *
  refine sgo ?_
  refine wlg (v := ptrAt p 0) ?_ rfl rfl (fun hg => y_idx1 (i := 0) (evG hg) (evG hg) (by have := gdec hg; omega) (hsome (by have := gdec hg; omega)))
  refine wlg (v := i32 r) ?_ rfl rfl (fun hg => y_load (i := 0) (evG hg) hI.sg (hget (by have := gdec hg; omega)))
  refine sgo ?_
  (show WC _ _ _ _ _ _ _; first | refine WC_dec rfl (fun hc => ?_) (fun hc => ?_) | refine WC_cond rfl (fun hc => ?_) (fun hc => ?_))
  · simp only [pkb_and, Bool.and_eq_true, decide_eq_true_eq] at hc
    have hil : i < rs.length := by omega
    have hcut := hcut hil
    rw [if_pos (by omega), he] at hcut
    refine sgo ?_
    have hI3 := hI.part1 (c := c1) (i' := 1) (by intro h; rw [rs32_drop, List.drop_drop, List.drop_eq_nil_of_le (by omega)]; rfl)
    rw [rs32_drop, List.drop_drop] at hI3
    exact ⟨(i + 1, slp c1 1 p 1, c1 - 1), ⟨rfl, trivial⟩, ⟨by dsimp only; omega, by dsimp only; omega, by dsimp only; omega, hI3, hcut.symm, hfr⟩, by dsimp only; omega⟩
  · simp only [pkb_and, Bool.and_eq_false_iff, decide_eq_false_iff_not] at hc
    have hdone : cutL rs = rs.drop i := by
      rcases Nat.lt_or_ge i rs.length with h | h
      · rw [← he, hcut h, if_neg (by omega)]
      · rw [← he, List.drop_eq_nil_of_le h]; rfl
    rw [hdone]
    have hdl2 : (rs.drop i).length = rs.length - i := by simp
    rw [← hdl2] at hc1
    have hgd2 : ∀ r ∈ rs.drop i, Good r := fun r hr => hgd r (List.mem_of_mem_drop hr)
    have hl2 : (rs.drop i).length ≤ 1073741824 := by omega
    clear hc
    refine sgo ?_
    rw [← hdl2]
    clear hdone hdl2 hcut he hget hsome hdl hI2 hR2 hgd hrl
    generalize rs.drop i = qs at *
    refine wcloop (X := Nat) (fun x => [(3, .slice p x c1)])
      (fun x wr => x ≤ qs.length ∧ cutT (qs.take x) = cutT qs ∧ Im [] wr p (rs32 (qs.take x)) ∧ Frm w wr) (fun x => x) qs.length ⟨rfl, trivial⟩ ⟨by omega, by rw [List.take_length], by rw [List.take_length]; exact hI, hfr⟩ ?_
    clear hI hfr hi r wr ρ
    rintro k wr ρ ⟨hk, he, hI, hfr⟩
    have hkl : (qs.take k).length = k := by simp; omega
    have hsome : 0 < k → ∃ a, p = some a := fun h => hI.some (by rw [rs32_length]; omega)
    have hget : 0 < k → (rs32 (qs.take k))[k - 1]? = some (i32 (qs[k - 1]?.getD 0 : Nat)) := fun h => by
      refine rs32_get ?_
      rw [List.getElem?_take_of_lt (by omega)]
      simp [show k - 1 < qs.length from by omega]
    have hcut := cutT_at qs (k - 1)
    generalize qs[k - 1]?.getD 0 = r at *
    have ek : ((k : Int) - 1).toNat = k - 1 := by omega
    refine sgo ?_
    refine wlg (v := ptrAt p ((k : Int) - 1).toNat) ?_ rfl rfl (fun hg => y_idx1I (evG hg) (evG hg) (by have := gdec hg; omega) (hsome (by have := gdec hg; omega)))
    rw [← ek] at hget
    refine wlg (v := i32 r) ?_ rfl rfl (fun hg => y_load (evG hg) hI.sg (hget (by have := gdec hg; omega)))
    refine sgo ?_
    (show WC _ _ _ _ _ _ _; first | refine WC_dec rfl (fun hc => ?_) (fun hc => ?_) | refine WC_cond rfl (fun hc => ?_) (fun hc => ?_))
    · simp only [pkb_and, Bool.and_eq_true, decide_eq_true_eq] at hc
      have h0 : 0 < k := by omega
      have hcut := hcut (by omega)
      rw [if_pos (by omega), Nat.sub_add_cancel h0, he] at hcut
      have hI3 := hI.take (k - 1)
      rw [rs32_take, List.take_take, Nat.min_eq_left (by omega)] at hI3
      refine sgo ?_
      exact ⟨k - 1, ⟨congrArg (fun x => Value.slice p x c1) ek, trivial⟩, ⟨by omega, hcut.symm, hI3, hfr⟩, by omega⟩
    · simp only [pkb_and, Bool.and_eq_false_iff, decide_eq_false_iff_not] at hc
      have hdone : cutT qs = qs.take k := by
        rcases Nat.eq_zero_or_pos k with h | h
        · rw [← he, h]; rfl
        · have := hcut (by omega)
          rw [if_neg (by omega), Nat.sub_add_cancel h, he] at this
          exact this
      rw [hdone]
      have hgd3 : ∀ r ∈ qs.take k, Good r := fun r hr => hgd2 r (List.mem_of_mem_take hr)
      have hl3 : (qs.take k).length ≤ 1073741824 := by omega
      clear hc
      refine sgo ?_
      have hc3 : (qs.take k).length ≤ c1 := by omega
      clear hdone hcut he hget hsome hgd2 hc1 hl2 hk ek
      generalize qs.take k = ts at *
      subst hkl
      have hBw : ∀ {x}, wr.heap.size ≤ x → w.heap.size ≤ x := fun h => Nat.le_trans hfr.size h
      clear hcap hb2 hf2 hf1 hfr2 hc2 hml hb w1 w2
      refine wlmake0 fun b0 w0 hb0 hR0 hf0 => ?_
      replace hI := (hI.fresh hb0).frm hf0
      replace hfr := hfr.trans hf0
      have hBb : ∀ x ∈ rb (pb b0), w.heap.size ≤ x := by
        intro x hx
        simp only [rb, List.mem_singleton] at hx
        subst hx
        exact hBw hb0
      clear hb0 hf0
      refine sgo ?_
      refine wcloop (X := Nat × Option Addr × List Nat × Nat) (fun x => [(4, .slice x.2.1 x.2.2.1.length x.2.2.2), (41, .slice p ts.length c1), (42, int ts.length), (43, int x.1)])
        (fun x wr => x.1 ≤ ts.length ∧ x.2.2.1.length ≤ x.1 ∧ keepN (ts.take x.1) = x.2.2.1 ∧ Row wr 1 x.2.1 x.2.2.1.length x.2.2.2 (rs32 x.2.2.1) ∧ Im (rb x.2.1) wr p (rs32 ts) ∧ (∀ y ∈ rb x.2.1, w.heap.size ≤ y) ∧ Frm w wr) (fun x => ts.length - x.1) (0, pb b0, [], ts.length) ⟨rfl, rfl, rfl, rfl, trivial⟩ ⟨by omega, by simp, rfl, hR0, hI, hBb, hfr⟩ ?_
      clear hR0 hI hBb hfr hBw wr ρ
      rintro ⟨j, q, ks, c2⟩ wr ρ ⟨hj, hkl, hke, hR, hI, hBb, hfr⟩
      dsimp only at hj hkl hke hR hI hBb ⊢
      refine sgo ?_
      (show WC _ _ _ _ _ _ _; first | refine WC_dec rfl (fun hc => ?_) (fun hc => ?_) | refine WC_cond rfl (fun hc => ?_) (fun hc => ?_))
      · have hjl : j < ts.length := by omega
        have hst : keepN (ts.take (j + 1)) = ks ++ keepN [ts[j]?.getD 0] := by
          rw [List.take_succ_eq_append_getElem hjl, keepN, List.filter_append]
          rw [show List.filter _ (ts.take j) = ks from hke]
          simp [hjl, keepN]
        have hget : (rs32 ts)[j]? = some (i32 (ts[j]?.getD 0 : Nat)) := rs32_get (by simp [hjl])
        generalize ts[j]?.getD 0 = r at *
        have hsome := hI.some (by rw [rs32_length]; omega)
        refine sgo ?_
        by_cases hr : r ≠ 9 ∧ r ≠ 10 ∧ r ≠ 13
        · rw [show keepN [r] = [r] from by simp [keepN, hr]] at hst
          iterate 3 (refine sgo ?_; refine WC_dec rfl (fun hc => absurd hc (by omega)) (fun hc => ?_))
          refine sgo ?_
          refine wlb1_int fun b6 w6 hb6 ho6 hf6 => ?_
          refine wlapp (hR.frm hf6) ho6.sg (fun q' c' w7 hR7 hl7 => ?_)
          have hIm7 := (hI.frm hf6).lm hl7
          have hfr7 := (hfr.trans hf6).step hl7.1 hBb
          have hBb7 : ∀ y ∈ rb q', w.heap.size ≤ y := by
            intro y hy
            rcases Nat.lt_or_ge y w6.heap.size with h | h
            · exact hBb y (hl7.2 y hy h)
            · exact Nat.le_trans (hfr.trans hf6).size h
          refine sgo ?_
          exact ⟨(j + 1, q', ks ++ [r], c'), ⟨by rw [List.length_append]; rfl, rfl, rfl, rfl, trivial⟩, ⟨by dsimp only; omega, by simp; omega, hst, by dsimp only; rw [List.length_append, rs32, List.map_append]; exact hR7, hIm7, hBb7, hfr7⟩, by dsimp only; omega⟩
        · rw [show keepN [r] = [] from by simp [keepN]; omega, List.append_nil] at hst
          have hgo : ∀ {A : Prop}, A → A := fun h => h
          by_cases h9 : r = 9
          · subst h9
            refine sgo ?_
            exact ⟨(j + 1, q, ks, c2), ⟨rfl, rfl, rfl, rfl, trivial⟩, ⟨by dsimp only; omega, by dsimp only; omega, hst, hR, hI, hBb, hfr⟩, by dsimp only; omega⟩
          · by_cases h10 : r = 10
            · subst h10
              refine sgo ?_
              exact ⟨(j + 1, q, ks, c2), ⟨rfl, rfl, rfl, rfl, trivial⟩, ⟨by dsimp only; omega, by dsimp only; omega, hst, hR, hI, hBb, hfr⟩, by dsimp only; omega⟩
            · obtain rfl : r = 13 := by omega
              refine sgo ?_
              exact ⟨(j + 1, q, ks, c2), ⟨rfl, rfl, rfl, rfl, trivial⟩, ⟨by dsimp only; omega, by dsimp only; omega, hst, hR, hI, hBb, hfr⟩, by dsimp only; omega⟩
      · obtain rfl : j = ts.length := by omega
        rw [List.take_length] at hke
        rw [← hke] at hR hkl ⊢
        refine sgo ?_
        refine wl ?_ (y_r2s (fun r hr => hgd3 r (List.mem_filter.1 hr).1) hR.sg rfl)
        refine sgo ?_
        (first | refine fp1 (.inl rfl) rfl rfl ?_ | refine fp2 (.inl rfl) rfl rfl rfl ?_ | refine fp3 (.inl rfl) rfl rfl rfl rfl ?_ | refine fp0 (.inr rfl) rfl ?_ | refine fp0 (.inl rfl) rfl ?_ | refine fp1 (.inr rfl) rfl rfl ?_); refine ⟨?_, by (first | exact Frm.refl _ | assumption | exact Go.Sv.Sep.frm (by assumption) | (refine Frm.trans ?_ (by assumption); first | exact Frm.refl _ | assumption))⟩; (try simp only [realB, rv_true, Nat.reduceBEq, cond_true, cond_false, entG, real_lif, updGL])
        rfl
      done
end Go.Proofs.YtffaoehhhdcjjaaDoor

/-
  Package link: Scheme, percent escapes.
-/
set_option linter.unusedSimpArgs false
set_option linter.unusedVariables false
set_option linter.unnecessarySimpa false
namespace Go.Sv
open Go Go.RowKit
/-- a cut behind the code at hand -/
theorem wcutn {P : Program} {n : Nat} {ds : Ctx} {K : Ctx → Env → World → Prop} {Q : Exit → Ctx → Env → World → Prop} {σ : Env} {w : World} {a : Code} {X : Type} (sl : X → List (Nat × Value)) (I : X → World → Prop)
    (ha : WC P n ds a (thl ds (fun σ w => ∃ x, Has σ (sl x) ∧ I x w) Q) σ w) (hb : ∀ x w (ρ : GE), I x w → K ds (real (updGL ρ (sl x))) w) : WC P n ds a (thn K Q) σ w := by
  refine WC_mono ha ?_
  intro e c' σ' w' h
  unfold thl at h
  unfold thn
  cases e <;> try exact h
  obtain ⟨rfl, x, h1, h2⟩ := h
  have := hb x w' (lif σ') h2
  rw [← real_updL, updL_has h1] at this
  exact this
end Go.Sv
namespace Go.Proofs.YtffaoehhhdcjjaaDoor
open Go Go.Sv Go.RowKit

theorem stripR_len (l : List UInt8) : (stripR l).length ≤ 4 * l.length := by
  have h1 := encR_flat (stripN (runesN l))
  have h2 : (stripN (runesN l)).length ≤ (runesN l).length := by
    unfold stripN keepN cutT cutL
    refine Nat.le_trans (List.length_filter_le _ _) ?_
    rw [List.length_reverse]
    refine Nat.le_trans ((List.dropWhile_sublist _).length_le) ?_
    rw [List.length_reverse]
    exact (List.dropWhile_sublist _).length_le
  have h3 := runesN_len l
  unfold stripR; omega
theorem scheme2_ok (l : List UInt8) (hb : l.length ≤ 1073741824) (w : World) : PureC Tryd.prog 7 #[str l] w (.tuple #[str (lowR ((stripR l).take (schemeR (stripR l)).1)), .bool (schemeR (stripR l)).2]) := by
  refine enter (l := [str l]) Tryd.func7 rfl Tryd.ntmps7 (by kernel_rfl) rfl ?_
  refine sgo ?_
  refine wlpure (strip_ok l hb _) fun w1 hf1 => ?_
  have hl := stripR_len l
  generalize stripR l = s at *
  refine sgo ?_
  refine wlpure (scheme_ok s (by omega) _) fun w2 hf2 => ?_
  have hf := hf1.trans hf2
  have hle := schemeR_le s
  generalize schemeR s = m at *
  refine sgo ?_
  refine wlpure (lower_ok (s.take m.1) (by simp; omega) _) fun w3 hf3 => ?_
  have hf' := hf.trans hf3
  refine sgo ?_
  (first | refine fp1 (.inl rfl) rfl rfl ?_ | refine fp2 (.inl rfl) rfl rfl rfl ?_ | refine fp3 (.inl rfl) rfl rfl rfl rfl ?_ | refine fp0 (.inr rfl) rfl ?_ | refine fp0 (.inl rfl) rfl ?_ | refine fp1 (.inr rfl) rfl rfl ?_); refine ⟨?_, by (first | exact Frm.refl _ | assumption | exact Go.Sv.Sep.frm (by assumption) | (refine Frm.trans ?_ (by assumption); first | exact Frm.refl _ | assumption))⟩; (try simp only [realB, rv_true, Nat.reduceBEq, cond_true, cond_false, entG, real_lif, updGL])

/-- two hexadecimal digits ahead? -/
def codedR (l : List UInt8) (i : Nat) : Bool := decide (i + 2 < l.length) && hexR (at0 l (i + 1)) && hexR (at0 l (i + 2))
theorem coded_ok (l : List UInt8) (i : Nat) (hi : i ≤ l.length) (hb : l.length ≤ 4611686018427387904) (w : World) : PureC Tryd.prog 74 #[str l, int i] w (.bool (codedR l i)) := by
  refine enter (l := [str l, int i]) Tryd.func74 rfl Tryd.ntmps74 (by kernel_rfl) rfl ?_
  refine sgo ?_
  have h1 := at_lt l (i + 1)
  have h2 := at_lt l (i + 2)
  refine wlcallgp (vals := [i32 (at0 l (i + 1))]) (fun _ => hex_ok (at0 l (i + 1)) h1 _) fun w1 hf1 => ?_
  refine sgo ?_
  refine wlcallgp (vals := [i32 (at0 l (i + 2))]) (fun _ => hex_ok (at0 l (i + 2)) h2 _) fun w2 hf2 => ?_
  have hf := hf1.trans hf2
  refine sgo ?_
  (first | refine fp1 (.inl rfl) rfl rfl ?_ | refine fp2 (.inl rfl) rfl rfl rfl ?_ | refine fp3 (.inl rfl) rfl rfl rfl rfl ?_ | refine fp0 (.inr rfl) rfl ?_ | refine fp0 (.inl rfl) rfl ?_ | refine fp1 (.inr rfl) rfl rfl ?_); refine ⟨?_, by (first | exact Frm.refl _ | assumption | exact Go.Sv.Sep.frm (by assumption) | (refine Frm.trans ?_ (by assumption); first | exact Frm.refl _ | assumption))⟩; (try simp only [realB, rv_true, Nat.reduceBEq, cond_true, cond_false, entG, real_lif, updGL])
  refine congrArg Value.bool ?_
  unfold codedR
  rw [pkb_and, pkb_and]
  rw [show decide ((i : Int) + 2 < l.length) = decide (i + 2 < l.length) from decide_eq_decide.2 (by omega)]
def codedS (t : List UInt8) : Bool := decide (1 < t.length) && hexR (at0 t 0) && hexR (at0 t 1)
theorem at_drop (l : List UInt8) (i j : Nat) : at0 (l.drop i) j = at0 l (i + j) := by simp [at0]
theorem codedR_drop (l : List UInt8) (i : Nat) : codedR l i = codedS (l.drop (i + 1)) := by
  unfold codedR codedS
  rw [at_drop, at_drop]
  rw [show decide (1 < (l.drop (i + 1)).length) = decide (i + 2 < l.length) from decide_eq_decide.2 (by simp; omega)]
def badB : List UInt8 := [34, 60, 62, 92, 94, 96, 123, 124, 125]
def escB (c : Nat) (coded : Bool) : Bool := decide (c ≤ 32) || decide (127 ≤ c) || decide (UInt8.ofNat c ∈ badB) || (decide (c = 37) && !coded)
def digs : List UInt8 := [48, 49, 50, 51, 52, 53, 54, 55, 56, 57, 65, 66, 67, 68, 69, 70]
def pct (c : Nat) : List UInt8 := [37, digs[c / 16]?.getD 0, digs[c % 16]?.getD 0]
def encC (c : Nat) (coded : Bool) : List UInt8 := if escB c coded then pct c else [UInt8.ofNat c]
def encL : List UInt8 → List UInt8
  | [] => []
  | c :: t => encC c.toNat (codedS t) ++ encL t
def encodeR (s : List UInt8) : List UInt8 := encL (mendR s)
theorem encL_at (l : List UInt8) (i : Nat) (h : i < l.length) : encL (l.drop i) = encC (at0 l i) (codedR l i) ++ encL (l.drop (i + 1)) := by
  rw [List.drop_eq_getElem_cons h, encL, codedR_drop]
  simp [at0, h]
theorem encC_len (c : Nat) (b : Bool) : (encC c b).length ≤ 3 := by
  unfold encC
  split
  · simp [pct]
  · simp
theorem indexByte_mem : ∀ (l : List UInt8) (c : UInt8), (0 ≤ Lib.indexByte l c) ↔ c ∈ l
  | [], c => by simp [Lib.indexByte]
  | b :: l, c => by
    have h := indexByte_mem l c
    have hg := Lib.indexByte_ge l c
    simp only [Lib.indexByte, List.mem_cons]
    by_cases hb : b = c
    · simp [hb]
    · have hb' : ¬ c = b := fun h => hb h.symm
      simp only [beq_iff_eq, hb, hb', if_false, false_or]
      split
      · rename_i h1
        rw [h1] at h
        rw [← h]
      · rw [← h]; omega
theorem indexByte_ok (s : List UInt8) (c : Nat) (w : World) : PureC Tryd.prog 73 #[str s, byt c] w (int (Lib.indexByte s (UInt8.ofNat c))) := by
  refine Calls.mono (Tryd.strings_IndexByte ⟨s.toArray⟩ c w) ?_
  rintro e w' ⟨rfl, rfl⟩
  exact ⟨_, rfl, rfl, Frm.refl _⟩
theorem sh4 (c : Nat) : (c : Int).fdiv (2 ^ (min (4 : Int).toNat IntKind.u8.bits)) = ((c / 16 : Nat) : Int) := fd c 16 (by decide)
theorem an15 (c : Nat) (hc : c < 256) : bitop .and .u8 (c : Int) 15 = ((c % 16 : Nat) : Int) := by revert hc; revert c; decide +kernel
set_option maxHeartbeats 2000000 in
theorem encode_ok (l : List UInt8) (hb : l.length ≤ 1073741824) (w : World) : PureC Tryd.prog 41 #[str l] w (str (encodeR l)) := by
  refine enter (l := [str l]) Tryd.func41 rfl Tryd.ntmps41 (by kernel_rfl) rfl ?_
  refine sgo ?_
  refine wlpure (mend_ok l hb _) fun w1 hf1 => ?_
  have hml := mendR_len l
  unfold encodeR
  generalize mendR l = t at *
  refine sgo ?_
  refine wlallocT fun b w0 hbw ha0 hf0 => ?_
  have hB0 : Bld TB TY w0 b none [] := Bld.new ha0
  refine sgo ?_
  refine wcloop (X := Nat × Option Addr × List UInt8) (fun x => [(0, str t), (3, ptrAt (pb b) 0), (9, int t.length), (10, int x.1)])
    (fun x wr => x.1 ≤ t.length ∧ x.2.2 ++ encL (t.drop x.1) = encL t ∧ x.2.2.length ≤ 3 * x.1 ∧ Bld TB TY wr b x.2.1 x.2.2 ∧ Frm w wr ∧ ∀ k ∈ b :: rb x.2.1, w.heap.size ≤ k)
    (fun x => t.length - x.1) (0, none, []) ⟨rfl, rfl, rfl, rfl, trivial⟩ ⟨by omega, by simp, by simp, hB0, hf1.trans hf0, ?_⟩ ?_
  · intro k hk
    simp only [rb, List.mem_singleton] at hk
    subst hk
    exact Nat.le_trans hf1.size hbw
  rintro ⟨i, q, s⟩ wr ρ ⟨hi, he, hsl, hBl, hfr, hq⟩
  dsimp only at hi he hsl hBl hq ⊢
  refine sgo ?_
  (show WC _ _ _ _ _ _ _; first | refine WC_dec rfl (fun hc => ?_) (fun hc => ?_) | refine WC_cond rfl (fun hc => ?_) (fun hc => ?_))
  · have hil : i < t.length := by omega
    have hst := encL_at t i hil
    have h256 := at_lt t i
    have hcd := fun w => coded_ok t i hi (by omega) w
    have fin : ∀ q' w', Bld TB TY w' b q' (s ++ encC (at0 t i) (codedR t i)) → Lm (b :: rb q) wr (b :: rb q') w' →
        (i + 1 ≤ t.length ∧ (s ++ encC (at0 t i) (codedR t i)) ++ encL (t.drop (i + 1)) = encL t ∧ (s ++ encC (at0 t i) (codedR t i)).length ≤ 3 * (i + 1) ∧ Bld TB TY w' b q' (s ++ encC (at0 t i) (codedR t i)) ∧ Frm w w' ∧ ∀ k ∈ b :: rb q', w.heap.size ≤ k) := by
      intro q' w' hB' hl'
      have := encC_len (at0 t i) (codedR t i)
      refine ⟨by omega, ?_, by simp; omega, hB', hfr.step hl'.1 hq, hl'.fresh hfr hq⟩
      rw [← he, hst, List.append_assoc]
    generalize codedR t i = cd at *
    clear hst
    simp only [at0] at fin h256
    refine sgo ?_
    generalize (t[i]?.getD 0).toNat = c at *
    refine wcutn (X := Unit) (fun _ => [(0, str t), (3, ptrAt (pb b) 0), (5, byt c), (9, int t.length), (10, int i), (18, .bool (escB c cd))]) (fun _ w' => Frm wr w') ?_ ?_
    · clear fin
      have fin : ∀ {b1 b2 : Bool}, b1 = b2 → Value.bool b1 = .bool b2 := fun h => h ▸ rfl
      (show WC _ _ _ _ _ _ _; first | refine WC_dec rfl (fun hc => ?_) (fun hc => ?_) | refine WC_cond rfl (fun hc => ?_) (fun hc => ?_))
      · refine sgo ?_
        refine ⟨(), ⟨rfl, rfl, rfl, rfl, rfl, fin ?_, trivial⟩, Frm.refl _⟩
        simp [escB, hc, show c ≤ 32 from by omega]
      · have h1 : ¬ c ≤ 32 := by omega
        refine sgo ?_
        (show WC _ _ _ _ _ _ _; first | refine WC_dec rfl (fun hc => ?_) (fun hc => ?_) | refine WC_cond rfl (fun hc => ?_) (fun hc => ?_))
        · refine sgo ?_
          refine ⟨(), ⟨rfl, rfl, rfl, rfl, rfl, fin ?_, trivial⟩, Frm.refl _⟩
          simp [escB, hc, show 127 ≤ c from by omega]
        · have h2 : ¬ 127 ≤ c := by omega
          refine sgo ?_
          refine wlpure (indexByte_ok badB c _) fun w3 hf3 => ?_
          have hm := indexByte_mem badB (UInt8.ofNat c)
          refine sgo ?_
          (show WC _ _ _ _ _ _ _; first | refine WC_dec rfl (fun hc => ?_) (fun hc => ?_) | refine WC_cond rfl (fun hc => ?_) (fun hc => ?_))
          · refine sgo ?_
            refine ⟨(), ⟨rfl, rfl, rfl, rfl, rfl, fin ?_, trivial⟩, hf3⟩
            simp [escB, hc, hm.1 hc]
          · have h3 : ¬ UInt8.ofNat c ∈ badB := fun h => hc (hm.2 h)
            refine sgo ?_
            refine wlcallgp (vals := [str t, int i]) (fun _ => hcd _) fun w4 hf4 => ?_
            refine sgo ?_
            refine ⟨(), ⟨rfl, rfl, rfl, rfl, rfl, fin ?_, trivial⟩, hf3.trans hf4⟩
            rw [pkb_and, show decide ((c : Int) = 37) = decide (c = 37) from decide_eq_decide.2 (by omega)]
            simp [escB, h1, h2, h3]
    · rintro ⟨⟩ w2 ρ2 hf2
      have hB2 := hBl.frm hf2
      refine sgo ?_
      (show WC _ _ _ _ _ _ _; first | refine WC_dec rfl (fun hc => ?_) (fun hc => ?_) | refine WC_cond rfl (fun hc => ?_) (fun hc => ?_))
      · rw [encC, if_pos hc] at fin
        refine sgo ?_
        refine wlcall (writeByte_ok b q s 37 _ hB2 (by omega)) ?_
        rintro v w3 ⟨rfl, q3, hB3, hl3⟩
        refine sgo ?_
        refine wl ?_ (y_sindexN (l := digs) (i := c / 16) rfl (congrArg (Value.int .u8) (sh4 c)) (by simp only [digs, List.length_cons, List.length_nil]; omega))
        refine sgo ?_
        refine wlcall (writeByte_ok b q3 _ (digs[c / 16]?.getD 0) _ hB3 (by simp; omega)) ?_
        rintro v w4 ⟨rfl, q4, hB4, hl4⟩
        refine sgo ?_
        refine wl ?_ (y_sindexN (l := digs) (i := c % 16) rfl (congrArg (Value.int .u8) (an15 c h256)) (by simp only [digs, List.length_cons, List.length_nil]; omega))
        refine sgo ?_
        refine wlcall (writeByte_ok b q4 _ (digs[c % 16]?.getD 0) _ hB4 (by simp; omega)) ?_
        rintro v w5 ⟨rfl, q5, hB5, hl5⟩
        refine sgo ?_
        exact ⟨(i + 1, q5, s ++ pct c), ⟨rfl, rfl, rfl, rfl, trivial⟩, fin q5 w5 (by simpa [pct] using hB5) (lm_frm hf2 ((hl3.trans hl4).trans hl5)), by dsimp only; omega⟩
      · rw [encC, if_neg (by simp [hc])] at fin
        refine sgo ?_
        have e : byt c = byt (UInt8.ofNat c).toNat := by rw [UInt8.toNat_ofNat_of_lt' (by simpa using h256)]
        rw [e]
        refine wlcall (writeByte_ok b q _ (UInt8.ofNat c) _ hB2 (by omega)) ?_
        rintro v w3 ⟨rfl, q3, hB3, hl3⟩
        refine sgo ?_
        exact ⟨(i + 1, q3, s ++ [UInt8.ofNat c]), ⟨rfl, rfl, rfl, rfl, trivial⟩, fin q3 w3 hB3 (lm_frm hf2 hl3), by dsimp only; omega⟩
  · obtain rfl : i = t.length := by omega
    have he' : s = encL t := by simpa [encL] using he
    subst he'
    refine sgo ?_
    refine wlcall (string_ok w.heap.size b q _ _ hBl hq hfr.size) ?_
    rintro v w5 ⟨rfl, hb5⟩
    refine sgo ?_
    (first | refine fp1 (.inl rfl) rfl rfl ?_ | refine fp2 (.inl rfl) rfl rfl rfl ?_ | refine fp3 (.inl rfl) rfl rfl rfl rfl ?_ | refine fp0 (.inr rfl) rfl ?_ | refine fp0 (.inl rfl) rfl ?_ | refine fp1 (.inr rfl) rfl rfl ?_)
    refine ⟨rfl, ?_⟩
    exact Below.trans hfr hb5
end Go.Proofs.YtffaoehhhdcjjaaDoor

/-
  Package link: without percent escapes.
-/
set_option linter.unusedSimpArgs false
set_option linter.unusedVariables false
set_option linter.unnecessarySimpa false
namespace Go.Sv
open Go Go.RowKit
section
variable {P : Program} {σ : GE} {w0 : World} {d : Nat} {ty t e : TypeId} {pos : String} {af : Array Edge} {x : Operand} {zv v : Value} {bytes : Nat} {kk : IntKind} {a : Int} {K : Env → World → Prop}
end
end Go.Sv
namespace Go.Proofs.YtffaoehhhdcjjaaDoor
open Go Go.Sv Go.RowKit

def valN (c : Nat) : Nat := (valueR c).toNat
def decL : List UInt8 → List UInt8
  | [] => []
  | c :: t => if c = 37 ∧ codedS t = true then UInt8.ofNat (16 * valN (at0 t 0) + valN (at0 t 1)) :: decL (t.drop 2) else c :: decL t
termination_by l => l.length
decreasing_by
  · simp; omega
  · simp
def decodeR (s : List UInt8) : List UInt8 := mendR (decL (mendR s))
end Go.Proofs.YtffaoehhhdcjjaaDoor

/-
  Package sieveref12: Encode, Decode.
-/
set_option linter.unusedSimpArgs false
set_option linter.unusedVariables false
set_option linter.unnecessarySimpa false
namespace Go.Sv
open Go Go.RowKit
section
variable {P : Program} {n : Nat} {ds : Ctx} {ops : Array Oper} {Q : Exit → Ctx → Env → World → Prop} {rest : List Oper} {σ : GE} {w : World} {d : Nat} {ty t t' e : TypeId} {pos : String} {af : Array Edge} {x : Operand} {zv : Value} {bytes : Nat}
def enum (vs : List Value) (j : Nat) : List (Nat × Value) := (vs.zipIdx j).map fun p => (p.2, p.1)
end
end Go.Sv
namespace Go.Proofs.YtffaoehhhdcjjaaDoor
open Go Go.Sv Go.RowKit

end Go.Proofs.YtffaoehhhdcjjaaDoor

/-
  Slices written out of elements of many cells; regions that draw their order, by an invariant of the whole state.
-/
set_option linter.unusedSimpArgs false
set_option linter.unusedVariables false
set_option linter.unnecessarySimpa false
namespace Go.Sv
open Go Go.RowKit
section
variable {P : Program} {n : Nat} {ds : Ctx} {ops : Array Oper} {Q : Exit → Ctx → Env → World → Prop} {rest : List Oper} {σ : GE} {w : World} {d : Nat} {ty t t' e : TypeId} {pos : String} {af : Array Edge} {x : Operand} {zv : Value} {size bytes : Nat}
end

/-! ## Regions that draw their order, by an invariant -/
def fwdB (ops : Array Oper) : Bool := (List.range ops.size).all fun j => match ops[j]? with
  | some o => o.after.all fun e => !Region.binds .any e || decide (e.on < j)
  | none => true
/-- what comes of an operation, whatever it yields -/
def comes (P : Program) (T : Value → World → Prop) : Result Next → Prop
  | .ok (.value u) w' => T u w'
  | .ok .skip w' => T undef w'
  | .ok (.enter f args) w' => Calls P f args w' (fun e w'' => ∃ v, e = .returned v ∧ T v w'')
  | _ => False
def StepI (P : Program) (ops : Array Oper) (S : (Nat → Bool) → Env → World → Prop) (k : Nat) (o : Oper) : Prop := ∀ L σ w, Up ops o k L → S L σ w →
  (Region.wanted o (yl ops σ) = true ∧ comes P (fun v w' => S (on L k) (updO σ o.dst v) w') ((execOp (evl σ) o).run P w)) ∨ (Region.wanted o (yl ops σ) = false ∧ S (on L k) (updO σ o.dst undef) w)
def StepsI (P : Program) (ops : Array Oper) (S : (Nat → Bool) → Env → World → Prop) : Nat → List Oper → Prop
  | _, [] => True
  | k, o :: l => StepI P ops S k o ∧ StepsI P ops S (k + 1) l
section
variable {P : Program} {n : Nat} {ds : Ctx} {Q : Exit → Ctx → Env → World → Prop} {S : (Nat → Bool) → Env → World → Prop} {σ : Env} {w : World}
end
end Go.Sv

/-
  Packages names and sieveref04: which names are in the set of void elements; texts parted by blanks.
-/
set_option linter.unusedSimpArgs false
set_option linter.unusedVariables false
set_option linter.unnecessarySimpa false
namespace Go.Proofs.YtffaoehhhdcjjaaDoor
open Go Go.Sv Go.RowKit

def strs (l : List (List UInt8)) : List Value := l.map fun s => str s
theorem strs_len (l : List (List UInt8)) : (strs l).length = l.length := by simp [strs]
theorem strs_at {l : List (List UInt8)} {i : Nat} {x : List UInt8} (h : l[i]? = some x) : (strs l)[i]? = some (str x) := by simp [strs, h]
theorem strs_app (l m : List (List UInt8)) : strs (l ++ m) = strs l ++ strs m := by simp [strs]
theorem strs_snoc (l : List (List UInt8)) (x : List UInt8) : strs l ++ [str x] = strs (l ++ [x]) := (strs_app l [x]).symm
/-- the table of blanks holds what its initialiser lays -/
def Asc (w : World) : Prop := Lib.TabIs Tryd.prog w "strings.asciiSpace" .u8 Lib.asciiSpaceTab












/-! ## sieveref04: Fields -/
def blkR (c : UInt8) : Bool := decide (c = 9 ∨ c = 10 ∨ c = 12 ∨ c = 32)
def fgo : List UInt8 → List UInt8 → List (List UInt8)
  | cur, [] => if cur = [] then [] else [cur]
  | cur, b :: l => if blkR b then (if cur = [] then fgo [] l else cur :: fgo [] l) else fgo (cur ++ [b]) l
def fieldsR (s : List UInt8) : List (List UInt8) := fgo [] s
theorem refBlank_ok (c : Int) (w : World) : PureC Tryd.prog 96 #[i32 c] w (.bool (decide (c = 9 ∨ c = 10 ∨ c = 12 ∨ c = 32))) := by
  refine enter (l := [i32 c]) Tryd.func96 rfl Tryd.ntmps96 (by kernel_rfl) rfl ?_
  refine sgo ?_
  (first | refine fp1 (.inl rfl) rfl rfl ?_ | refine fp2 (.inl rfl) rfl rfl rfl ?_ | refine fp3 (.inl rfl) rfl rfl rfl rfl ?_ | refine fp0 (.inr rfl) rfl ?_ | refine fp0 (.inl rfl) rfl ?_ | refine fp1 (.inr rfl) rfl rfl ?_); refine ⟨?_, by (first | exact Frm.refl _ | assumption | exact Go.Sv.Sep.frm (by assumption) | (refine Frm.trans ?_ (by assumption); first | exact Frm.refl _ | assumption))⟩; (try simp only [realB, rv_true, Nat.reduceBEq, cond_true, cond_false, entG, real_lif, updGL])
  congr 1
  simp only [pkb_or, Bool.decide_or, Bool.or_assoc]











/-! ## the sets -/
def voidL : List (List UInt8) := fieldsR [97, 114, 101, 97, 32, 98, 97, 115, 101, 32, 98, 114, 32, 99, 111, 108, 32, 101, 109, 98, 101, 100, 32, 104, 114, 32, 105, 109, 103, 32, 105, 110, 112, 117, 116, 32, 108, 105, 110, 107, 32, 109, 101, 116, 97, 32, 115, 111, 117, 114, 99, 101, 32, 116, 114, 97, 99, 107, 32, 119, 98, 114]
def voidT : List UInt8 := [97, 114, 101, 97, 32, 98, 97, 115, 101, 32, 98, 114, 32, 99, 111, 108, 32, 101, 109, 98, 101, 100, 32, 104, 114, 32, 105, 109, 103, 32, 105, 110, 112, 117, 116, 32, 108, 105, 110, 107, 32, 109, 101, 116, 97, 32, 115, 111, 117, 114, 99, 101, 32, 116, 114, 97, 99, 107, 32, 119, 98, 114]
/-- is a name a void element's? -/
def voidR (n : List UInt8) : Bool := decide (n ∈ voidL)
end Go.Proofs.YtffaoehhhdcjjaaDoor

/-
  Package names: the sets' names.
-/
set_option linter.unusedSimpArgs false
set_option linter.unusedVariables false
set_option linter.unnecessarySimpa false
namespace Go.Proofs.YtffaoehhhdcjjaaDoor
open Go Go.Sv Go.RowKit




















end Go.Proofs.YtffaoehhhdcjjaaDoor

/-
  Packages names and sieveref04: In, of the void elements.
-/
set_option linter.unusedSimpArgs false
set_option linter.unusedVariables false
set_option linter.unnecessarySimpa false
namespace Go.Proofs.YtffaoehhhdcjjaaDoor
open Go Go.Sv Go.RowKit











end Go.Proofs.YtffaoehhhdcjjaaDoor

/-
  Packages event and sieveref18: which events may be.
-/
set_option linter.unusedSimpArgs false
set_option linter.unusedVariables false
set_option linter.unnecessarySimpa false
namespace Go.Sv
open Go Go.RowKit
section
variable {P : Program} {n : Nat} {ds : Ctx} {ops : Array Oper} {Q : Exit → Ctx → Env → World → Prop} {rest : List Oper} {σ : GE} {w : World} {d : Nat} {ty t : TypeId} {pos : String} {af : Array Edge} {zv : Value} {size bytes : Nat} {j dj : Nat} {want b c : Bool}
end
end Go.Sv
namespace Go.Proofs.YtffaoehhhdcjjaaDoor
open Go Go.Sv Go.RowKit

/-- may an event be? -/
def evR (e : Ev) : Bool :=
  if e.kind = 0 then !decide (e.text = []) && validR e.text && decide (e.name = []) && decide (e.attrs.length = 0)
  else if e.kind = 1 then decide (e.text = []) && mayR e.start && !voidR e.name
  else if e.kind = 3 then decide (e.text = []) && mayR e.start && voidR e.name
  else if e.kind = 2 then decide (e.text = []) && decide (e.attrs.length = 0) && mayR e.close
  else false





































































































































































































end Go.Proofs.YtffaoehhhdcjjaaDoor

/-
  How events nest: the plain part; the stack of names.
-/
set_option linter.unusedSimpArgs false
set_option linter.unusedVariables false
set_option linter.unnecessarySimpa false
namespace Go.Sv
open Go Go.RowKit
/-- a cut behind a piece of code -/
theorem wcutt {P : Program} {n : Nat} {ds : Ctx} {K : Ctx → Env → World → Prop} {Q : Exit → Ctx → Env → World → Prop} {σ : Env} {w : World} {a : Code} {X : Type} (sl : X → List (Nat × Value)) (I : X → World → Prop)
    (ha : WC P n ds a (thl ds (fun σ w => ∃ x, Has σ (sl x) ∧ I x w) Q) σ w) (hb : ∀ x w (ρ : GE), I x w → K ds (real (updGL ρ (sl x))) w) : WC P n ds a (thn K Q) σ w := by
  refine WC_mono ha ?_
  intro e c' σ' w' h
  unfold thl at h
  unfold thn
  cases e <;> try exact h
  obtain ⟨rfl, x, h1, h2⟩ := h
  have := hb x w' (lif σ') h2
  rw [← real_updL, updL_has h1] at this
  exact this
/-- two worlds that agree on the first B blocks -/
structure Same (B : Nat) (w w' : World) : Prop where
  os : w'.os = w.os
  tape : w'.tape = w.tape
  output : w'.output = w.output
  size : B ≤ w'.heap.size
  block : ∀ k, k < B → w'.heap[k]? = w.heap[k]?
theorem Same.frm {w w1 w2 : World} (h : Frm w w1) (h' : Same w.heap.size w1 w2) : Frm w w2 := ⟨h'.os.trans h.os, h'.tape.trans h.tape, h'.output.trans h.output, h'.size, fun k hk => (h'.block k hk).trans (h.block k hk)⟩
theorem Own.same {B : Nat} {w w' : World} {b : Nat} {l : List Value} (h : Own w b l) (hs : Same B w w') (hb : b < B) : Own w' b l := h.of_block (hs.block b hb)
end Go.Sv
namespace Go.Proofs.YtffaoehhhdcjjaaDoor
open Go Go.Sv Go.RowKit

/-! ## The plain part -/
structure Lk where
  stack : List (List UInt8)
  most : Nat
  at_ : Nat
  err : Int
  good : Nat
def lkStep (k : Lk) (e : Ev) : Lk :=
  if k.err = 0 then
    if evR e then
      if e.kind = 1 then ⟨k.stack ++ [e.name], max k.most (k.stack.length + 1), 0, 0, k.good + 1⟩
      else if e.kind = 3 then ⟨k.stack, max k.most (k.stack.length + 1), 0, 0, k.good + 1⟩
      else if e.kind = 2 then (if k.stack.getLast? = some e.name then ⟨k.stack.dropLast, k.most, 0, 0, k.good + 1⟩ else { k with at_ := k.good, err := 181 })
      else ⟨k.stack, k.most, 0, 0, k.good + 1⟩
    else { k with at_ := k.good, err := 180 }
  else k
def lk0 : Lk := ⟨[], 0, 0, 0, 0⟩
/-- how events nest -/
def lkR (l : List Ev) : Lk := l.foldl lkStep lk0
/-! ## A stack of names in memory -/
/-- a stack: where it lies, and its names -/
def pStk (b : Nat) (p : Option Addr) (c : Nat) (st : List (List UInt8)) : List Plot := [pOwn b [.slice p st.length c], pRow 1 p st.length c (strs st)]

































































end Go.Proofs.YtffaoehhhdcjjaaDoor

/-
  strings.Join (and Grow of a builder that has not been written).
-/
set_option linter.unusedSimpArgs false
set_option linter.unusedVariables false
set_option linter.unnecessarySimpa false
namespace Go.Sv
open Go Go.RowKit
section
variable {P : Program} {T E : TypeId} {w w' : World} {b : Nat} {q : Option Addr} {c : Nat} {s : List UInt8}
theorem y_cap {σ : Env} {d : Option Tmp} {ty t t' : TypeId} {pos : String} {af : Array Edge} {g : Option (Nat × Bool)} {x : Operand} {p : Option Addr} {m c : Nat} [hu : Und P t (.slice t')] (hx : evl σ x = .slice p m c) : Y P σ ⟨d, .call ⟨.builtin .cap, #[x], #[t]⟩, ty, pos, af, g⟩ w (int c) w := by
  refine Y.val ?_; simp only [execOp, resolve, Sem.run_bind, Sem.run_pure, Result.andThen_ok, invoke, builtin]
  simp [hx, Builtin.cap_, underlying, hu.ok, goInt]
theorem Bld.of_shelf {B : Nat} (h : Lib.BuilderAt T E B b (.pointer (pb b)) [] w) : ∃ q, Bld T E w b q [] ∧ ∀ k ∈ b :: rb q, B ≤ k := by
  obtain ⟨hB, v, hc, hr, hne⟩ := h
  have h0 : w.ownsRow 0 E 1 v 0 [] := by
    refine ⟨hr.1, ?_⟩
    rcases hr.2 with h1 | ⟨g, cap, cur, hv, h2, h3⟩
    · exact .inl h1
    · exact .inr ⟨g, cap, cur, hv, Nat.zero_le _, h3⟩
  obtain ⟨q, c, rfl⟩ : ∃ q c, v = .slice q 0 c := by
    rcases h0.2 with ⟨rfl, _⟩ | ⟨g, cap, cur, rfl, _⟩
    · exact ⟨_, _, rfl⟩
    · exact ⟨_, _, rfl⟩
  refine ⟨q, ⟨pb b, c, .inr rfl, hc, h0, fun hb => hne (rb_own.2 hb)⟩, fun k hk => ?_⟩
  rcases List.mem_cons.1 hk with rfl | hk
  · exact hB
  · exact (hr.lt k (rb_own.2 hk)).1
end
end Go.Sv
namespace Go.Proofs.YtffaoehhhdcjjaaDoor
open Go Go.Sv Go.RowKit

theorem grow_ok (b n : Nat) (w0 w : World) (hf : Frm w0 w) (hb : w0.heap.size ≤ b) (hn : n ≤ 1073741824) (h : BuP TB TY w b none none 0 []) :
    CallsR Tryd.prog 87 #[ptrAt (pb b) 0, int n] w fun _ w' => ∃ q, Bld TB TY w' b q [] ∧ (∀ k ∈ b :: rb q, w0.heap.size ≤ k) ∧ Frm w0 w' := by
  refine enter (l := [ptrAt (pb b) 0, int n]) Tryd.func87 rfl Tryd.ntmps87 (by kernel_rfl) rfl ?_
  refine sgo ?_
  refine wlcall (copyCheck_ok b none none 0 [] w h) ?_
  rintro v w1 ⟨rfl, h1, hl1⟩
  have ho : Own w1 b [.pointer (pb b), .slice none 0 0] := h1.own
  have hf1 : Frm w0 w1 := hf.step hl1 (by simpa using hb)
  refine sgo ?_
  refine wcno ?_ (ht := by simp)
  refine sgo ?_
  refine wcdraw ?_
  refine qgo ?_
  refine ql ?_ (YQ.ofY fun w hw => y_cap rfl)
  refine qgo ?_
  refine QL_nil ?_
  intro w2 hf2
  have hf3 := hf1.trans hf2
  have h2 : BuP TB TY w2 b (pb b) none 0 [] := h1.le (M := []) hf2.le (by simp) (by simp)
  refine sgo ?_
  (show WC _ _ _ _ _ _ _; first | refine WC_dec rfl (fun hc => ?_) (fun hc => ?_) | refine WC_cond rfl (fun hc => ?_) (fun hc => ?_))
  · refine sgo ?_
    refine wlcall (R := fun _ w' => ∃ q, Bld TB TY w' b q [] ∧ (∀ k ∈ b :: rb q, w0.heap.size ≤ k) ∧ Frm w0 w') ?_ ?_
    · refine Calls.mono (Tryd.Builder_grow_fresh w0.heap.size b n w2 hb h2.cell hf3.size (by omega)) ?_
      rintro e w3 ⟨rfl, hB, hf4⟩
      obtain ⟨q, hq1, hq2⟩ := Bld.of_shelf hB
      exact ⟨_, rfl, q, hq1, hq2, Below.trans hf3 hf4⟩
    rintro _ w3 ⟨q, hq1, hq2, hf4⟩
    refine sgo ?_
    (first | refine fp1 (.inl rfl) rfl rfl ?_ | refine fp2 (.inl rfl) rfl rfl rfl ?_ | refine fp3 (.inl rfl) rfl rfl rfl rfl ?_ | refine fp0 (.inr rfl) rfl ?_ | refine fp0 (.inl rfl) rfl ?_ | refine fp1 (.inr rfl) rfl rfl ?_)
    exact ⟨q, hq1, hq2, hf4⟩
  · refine sgo ?_
    (first | refine fp1 (.inl rfl) rfl rfl ?_ | refine fp2 (.inl rfl) rfl rfl rfl ?_ | refine fp3 (.inl rfl) rfl rfl rfl rfl ?_ | refine fp0 (.inr rfl) rfl ?_ | refine fp0 (.inl rfl) rfl ?_ | refine fp1 (.inr rfl) rfl rfl ?_)
    exact ⟨none, ⟨_, _, h2⟩, by intro k hk; simp [rb] at hk; omega, hf3⟩
/-- texts, put together -/
def joinR (sep : List UInt8) : List (List UInt8) → List UInt8
  | [] => []
  | x :: r => x ++ r.flatMap fun y => sep ++ y
def tlen (l : List (List UInt8)) : Nat := (l.map List.length).sum
theorem join_len (sep x : List UInt8) (r : List (List UInt8)) : (joinR sep (x :: r)).length = sep.length * r.length + tlen (x :: r) := by
  have : (r.flatMap fun y => sep ++ y).length = sep.length * r.length + tlen r := by
    induction r with
    | nil => simp [tlen]
    | cons y r ih => simp only [List.flatMap_cons, List.length_append, ih, tlen, List.map_cons, List.sum_cons, List.length_cons, Nat.mul_add, Nat.mul_one]; omega
  simp only [joinR, List.length_append, this, tlen, List.map_cons, List.sum_cons]; omega
theorem tlen_snoc {l : List (List UInt8)} {i : Nat} {x : List UInt8} (h : l[i]? = some x) : tlen (l.take (i + 1)) = tlen (l.take i) + x.length := by
  unfold tlen
  rw [List.take_add_one, h, List.map_append, List.sum_append]; simp
theorem tlen_take (l : List (List UInt8)) (i : Nat) : tlen (l.take i) ≤ tlen l := by
  have : tlen l = tlen (l.take i) + tlen (l.drop i) := by
    unfold tlen
    rw [← List.sum_append, ← List.map_append, List.take_append_drop]
  omega
theorem join_snoc {sep x : List UInt8} {r : List (List UInt8)} {i : Nat} {y : List UInt8} (h : r[i]? = some y) : joinR sep (x :: r.take (i + 1)) = joinR sep (x :: r.take i) ++ sep ++ y := by
  simp only [joinR]
  rw [List.take_add_one, h, List.flatMap_append]; simp
set_option maxHeartbeats 2000000 in
theorem join_ok (l : List (List UInt8)) (sep : List UInt8) (p : Option Addr) (c : Nat) (hc : l.length ≤ c) (hn : l.length ≤ 16777217) (hsp : sep.length ≤ 1048576) (hj : (joinR sep l).length ≤ 1073741824) (w : World) (hi : Im [] w p (strs l)) :
    PureC Tryd.prog 57 #[.slice p l.length c, str sep] w (str (joinR sep l)) := by
  match l, hc, hn, hj, hi with
  | [], hc, hn, hj, hi =>
    refine enter (l := [.slice p 0 c, str sep]) Tryd.func57 rfl Tryd.ntmps57 (by kernel_rfl) rfl ?_
    refine sgo ?_
    (first | refine fp1 (.inl rfl) rfl rfl ?_ | refine fp2 (.inl rfl) rfl rfl rfl ?_ | refine fp3 (.inl rfl) rfl rfl rfl rfl ?_ | refine fp0 (.inr rfl) rfl ?_ | refine fp0 (.inl rfl) rfl ?_ | refine fp1 (.inr rfl) rfl rfl ?_); refine ⟨?_, by (first | exact Frm.refl _ | assumption | exact Go.Sv.Sep.frm (by assumption) | (refine Frm.trans ?_ (by assumption); first | exact Frm.refl _ | assumption))⟩; (try simp only [realB, rv_true, Nat.reduceBEq, cond_true, cond_false, entG, real_lif, updGL])
    rfl
  | [x], hc, hn, hj, hi =>
    have hSg : Sg w p [str x] := hi.sg
    have hps : ∃ q, p = some q := hi.some (by simp [strs])
    refine enter (l := [.slice p 1 c, str sep]) Tryd.func57 rfl Tryd.ntmps57 (by kernel_rfl) rfl ?_
    refine sgo ?_
    (first | refine fp1 (.inl rfl) rfl rfl ?_ | refine fp2 (.inl rfl) rfl rfl rfl ?_ | refine fp3 (.inl rfl) rfl rfl rfl rfl ?_ | refine fp0 (.inr rfl) rfl ?_ | refine fp0 (.inl rfl) rfl ?_ | refine fp1 (.inr rfl) rfl rfl ?_); refine ⟨?_, by (first | exact Frm.refl _ | assumption | exact Go.Sv.Sep.frm (by assumption) | (refine Frm.trans ?_ (by assumption); first | exact Frm.refl _ | assumption))⟩; (try simp only [realB, rv_true, Nat.reduceBEq, cond_true, cond_false, entG, real_lif, updGL])
    simp [joinR]
  | x :: y :: r, hc, hn, hj, hi =>
    have hl : (x :: y :: r).length = r.length + 2 := rfl
    have hjl := join_len sep x (y :: r)
    have hps : ∃ q, p = some q := hi.some (by simp [strs])
    have hrl : (y :: r).length = r.length + 1 := rfl
    have hx0 : (strs (x :: y :: r))[0]? = some (str x) := rfl
    have hxl : x.length ≤ tlen (x :: y :: r) := by simp [tlen]
    have htl : Im [] w (p.map (·.add 1)) (strs (y :: r)) := hi.drop 1
    rw [hrl] at hjl
    generalize hL : x :: y :: r = L at *
    have hm : sep.length * (r.length + 1) ≤ 1073741824 := by omega
    have hmi : (sep.length : Int) * ((L.length : Int) - 1) = ((sep.length * (r.length + 1) : Nat) : Int) := by
      rw [hl]; push_cast; congr 1; omega
    generalize hM : sep.length * (r.length + 1) = M at *
    refine enter (l := [.slice p L.length c, str sep]) Tryd.func57 rfl Tryd.ntmps57 (by kernel_rfl) rfl ?_
    refine sgo ?_
    refine wcno ?_ (ht := decide_eq_false (by omega))
    refine sgo ?_
    refine wcno ?_ (ht := decide_eq_false (by omega))
    refine sgo ?_
    refine wcutt (X := Unit) (fun _ => [(0, .slice p L.length c), (1, str sep), (5, int M)]) (fun _ w' => w' = w) ?_ ?_
    · (show WC _ _ _ _ _ _ _; first | refine WC_dec rfl (fun hc => ?_) (fun hc => ?_) | refine WC_cond rfl (fun hc => ?_) (fun hc => ?_))
      · have hq : (sep.length : Int) < 9223372036854775807 / ((L.length : Int) - 1) := by
          have := (Int.le_ediv_iff_mul_le (c := (L.length : Int) - 1) (a := (sep.length : Int) + 1) (b := 9223372036854775807) (by omega)).2 (by rw [Int.add_mul, hmi]; omega)
          omega
        refine sgo ?_
        refine wcno ?_ (ht := decide_eq_false (by omega))
        refine sgo ?_
        refine ⟨(), ⟨rfl, rfl, ?_, trivial⟩, rfl⟩
        show int _ = int _
        rw [hmi, Int.zero_add]
      · have hz : sep.length = 0 := by omega
        have hM0 : M = 0 := by rw [← hM, hz, Nat.zero_mul]
        refine sgo ?_
        refine ⟨(), ⟨rfl, rfl, ?_, trivial⟩, rfl⟩
        rw [hM0]; rfl
    rintro _ w1 ρ rfl
    have hSg : Sg w1 p (strs L) := hi.sg
    have hsl := strs_len L
    refine sgo ?_
    refine wcloop (X := Nat) (fun i => [(0, .slice p L.length c), (1, str sep), (5, int ((M + tlen (L.take i) : Nat))), (39, .slice p L.length c), (40, int L.length), (41, int i)])
      (fun i wr => i ≤ L.length ∧ wr = w1) (fun i => L.length - i) 0 ⟨rfl, rfl, rfl, rfl, rfl, rfl, trivial⟩ ⟨Nat.zero_le _, rfl⟩ ?_
    rintro i w1 ρ2 ⟨hil, rfl⟩
    have ht1 := tlen_take L i
    refine sgo ?_
    (show WC _ _ _ _ _ _ _; first | refine WC_dec rfl (fun hc => ?_) (fun hc => ?_) | refine WC_cond rfl (fun hc => ?_) (fun hc => ?_))
    · have hlt : i < L.length := by omega
      have hx : L[i]? = some L[i] := List.getElem?_eq_getElem hlt
      have hgx := strs_at hx
      have hsn := tlen_snoc hx
      have ht2 := tlen_take L (i + 1)
      generalize L[i] = z at *
      clear hc
      refine sgo ?_
      refine wcno ?_ (ht := decide_eq_false (by omega))
      refine sgo ?_
      refine ⟨i + 1, ⟨rfl, rfl, ?_, rfl, rfl, rfl, trivial⟩, ⟨hlt, rfl⟩, (by (try dsimp only); omega)⟩
      show int _ = int _
      congr 1
      omega
    · obtain rfl : i = L.length := by omega
      rw [List.take_length]
      refine sgo ?_
      refine wlallocT fun b w2 hbw ha0 hf0 => ?_
      have hB0 : BuP TB TY w2 b none none 0 [] := ⟨.inl rfl, ha0, ⟨by simp [bs], .inl ⟨rfl, rfl⟩⟩, by simp [rb]⟩
      refine sgo ?_
      refine wlcall (grow_ok b (M + tlen L) w1 w2 hf0 hbw (by omega) hB0) ?_
      rintro _ w3 ⟨q, hB3, hq3, hf3⟩
      have hSg := (hi.frm hf3).sg
      have htl3 := htl.frm hf3
      have hYL : L.length = (y :: r).length + 1 := by rw [hl]; rfl
      have hjt : ∀ i, (joinR sep (x :: (y :: r).take i)).length ≤ (joinR sep L).length := by
        intro i
        rw [← hL, join_len, join_len]
        have h1 : ((y :: r).take i).length ≤ (y :: r).length := by rw [List.length_take]; omega
        have h2 := Nat.mul_le_mul_left sep.length h1
        have h3 := tlen_take (y :: r) i
        simp only [tlen, List.map_cons, List.sum_cons] at h3 ⊢
        omega
      generalize hY : y :: r = Y at *
      have hjx : joinR sep (x :: Y) = joinR sep L := by rw [← hL]
      refine sgo ?_
      refine wlcall (writeString_ok b q [] x _ hB3 (by simp only [List.length_nil]; omega)) ?_
      rintro _ w4 ⟨rfl, q4, hB4, hl4⟩
      have hf4 := hf3.step hl4.1 hq3
      have hq4 := hl4.fresh hf3 hq3
      clear hB3 hl4
      refine sgo ?_
      have he : slp c (Int.toNat 1) p (Int.toNat 1 * 1) = p.map (·.add 1) := slp_ne (show c ≠ 1 by omega) p 1
      rw [he]
      have hps2 : ∃ q, p.map (·.add 1) = some q := by obtain ⟨a, rfl⟩ := hps; exact ⟨_, rfl⟩
      have hYl : Y.length = L.length - 1 := by omega
      generalize p.map (·.add 1) = p2 at *
      clear he
      rw [List.nil_append] at hB4
      refine wcloop (X := Nat × Option Addr) (fun x => [(1, str sep), (8, ptrAt (pb b) 0), (63, .slice p2 (L.length - 1) (c - 1)), (64, int (L.length - 1 : Nat)), (65, int x.1)])
        (fun z wr => z.1 ≤ Y.length ∧ Bld TB TY wr b z.2 (joinR sep (x :: Y.take z.1)) ∧ Frm w1 wr ∧ ∀ k ∈ b :: rb z.2, w1.heap.size ≤ k)
        (fun x => Y.length - x.1) (0, q4) ⟨rfl, rfl, rfl, rfl, rfl, trivial⟩ ⟨by omega, by simpa [joinR] using hB4, hf4, hq4⟩ ?_
      clear hB4 hq4 hf4 htl3 hSg hf3 hq3
      rintro ⟨i, q5⟩ wr ρ3 ⟨hil, hBl, hfr, hq5⟩
      dsimp only at hil hBl hq5 ⊢
      rw [← hYl]
      have hI := htl.frm hfr
      have hSg := hI.sg
      have hsl := strs_len Y
      refine sgo ?_
      (show WC _ _ _ _ _ _ _; first | refine WC_dec rfl (fun hc => ?_) (fun hc => ?_) | refine WC_cond rfl (fun hc => ?_) (fun hc => ?_))
      · have hlt : i < Y.length := by omega
        have hx : Y[i]? = some Y[i] := List.getElem?_eq_getElem hlt
        have hgx := strs_at hx
        have hsn := join_snoc (sep := sep) (x := x) hx
        have ht1 := hjt i
        have ht2 := hjt (i + 1)
        rw [hsn, List.length_append, List.length_append] at ht2
        generalize Y[i] = z at *
        generalize joinR sep (x :: Y.take i) = A at *
        clear hc
        refine sgo ?_
        refine wlcall (writeString_ok b q5 A sep _ hBl (by omega)) ?_
        rintro _ w5 ⟨rfl, q6, hB6, hl6⟩
        have hf6 := hfr.step hl6.1 hq5
        have hq6 := hl6.fresh hfr hq5
        clear hBl hl6
        refine sgo ?_
        refine wlcall (writeString_ok b q6 (A ++ sep) z _ hB6 (by rw [List.length_append]; omega)) ?_
        rintro _ w7 ⟨rfl, q7, hB7, hl7⟩
        have hf7 := hf6.step hl7.1 hq6
        have hq7 := hl7.fresh hf6 hq6
        refine sgo ?_
        refine ⟨(i + 1, q7), ⟨rfl, rfl, rfl, rfl, rfl, trivial⟩, ⟨by dsimp only; omega, ?_, hf7, hq7⟩, by dsimp only; omega⟩
        dsimp only; rw [hsn]; exact hB7
      · obtain rfl : i = Y.length := by omega
        rw [List.take_length] at hBl
        refine sgo ?_
        refine wlcall (string_ok w1.heap.size b q5 _ _ hBl hq5 hfr.size) ?_
        rintro v w8 ⟨rfl, hf8⟩
        have hfr8 : Frm w1 w8 := Below.trans hfr hf8
        refine sgo ?_
        (first | refine fp1 (.inl rfl) rfl rfl ?_ | refine fp2 (.inl rfl) rfl rfl rfl ?_ | refine fp3 (.inl rfl) rfl rfl rfl rfl ?_ | refine fp0 (.inr rfl) rfl ?_ | refine fp0 (.inl rfl) rfl ?_ | refine fp1 (.inr rfl) rfl rfl ?_); refine ⟨?_, by (first | exact Frm.refl _ | assumption | exact Go.Sv.Sep.frm (by assumption) | (refine Frm.trans ?_ (by assumption); first | exact Frm.refl _ | assumption))⟩; (try simp only [realB, rv_true, Nat.reduceBEq, cond_true, cond_false, entG, real_lif, updGL])
        rw [hjx]
end Go.Proofs.YtffaoehhhdcjjaaDoor

/-
  Package link: runs of white bytes made one blank, as a law of lists.
-/
set_option linter.unusedSimpArgs false
set_option linter.unusedVariables false
set_option linter.unnecessarySimpa false
namespace Go.Proofs.YtffaoehhhdcjjaaDoor
open Go Go.Sv Go.RowKit

/-- a byte that HTML counts as white -/
def whiteR (c : Nat) : Bool := decide (c = 9 ∨ c = 10 ∨ c = 12 ∨ c = 13 ∨ c = 32)
theorem white_low {c : Nat} (h : 128 ≤ c) : whiteR c = false := decide_eq_false (by omega)
/-- what one byte does to the text so far -/
def sqStep (x : List UInt8 × Bool) (c : UInt8) : List UInt8 × Bool :=
  if whiteR c.toNat then (x.1, !decide (x.1 = [])) else (x.1 ++ (if x.2 then [32] else []) ++ [c], false)
def sqF (l : List UInt8) : List UInt8 × Bool := l.foldl sqStep ([], false)
def sqR (l : List UInt8) : List UInt8 := (sqF l).1
theorem sqF_nil : sqF [] = ([], false) := rfl
theorem sqF_snoc {l : List UInt8} {i : Nat} {c : UInt8} (h : l[i]? = some c) : sqF (l.take (i + 1)) = sqStep (sqF (l.take i)) c := by
  unfold sqF
  rw [List.take_add_one, h, Option.toList, List.foldl_append]
  rfl
theorem sqF_len (l : List UInt8) : (sqF l).1.length + (if (sqF l).2 then 1 else 0) ≤ l.length := by
  suffices h : ∀ i, i ≤ l.length → (sqF (l.take i)).1.length + (if (sqF (l.take i)).2 then 1 else 0) ≤ i by
    have := h l.length (Nat.le_refl _)
    rwa [List.take_length] at this
  intro i
  induction i with
  | zero => intro _; rw [List.take_zero, sqF_nil]; simp
  | succ i ih =>
    intro hi
    have h := ih (by omega)
    rw [sqF_snoc (List.getElem?_eq_getElem (show i < l.length by omega))]
    generalize sqF (l.take i) = x at *
    generalize l[i] = c at *
    unfold sqStep
    split
    · dsimp only
      split <;> split at h <;> omega
    · simp only [List.length_append, List.length_cons, List.length_nil, Bool.false_eq_true, if_false]
      split at h
      · rename_i hb; rw [if_pos hb]; simp; omega
      · rename_i hb; rw [if_neg hb]; simp; omega
theorem sq_run : ∀ (y : List UInt8) (x : List UInt8 × Bool), y ≠ [] → (∀ c ∈ y, whiteR c.toNat = false) → y.foldl sqStep x = (x.1 ++ (if x.2 then [32] else []) ++ y, false)
  | [], x, h, _ => absurd rfl h
  | [c], x, _, hw => by
    have := hw c (by simp)
    simp [sqStep, this]
  | c :: d :: y, x, _, hw => by
    have h1 := hw c (by simp)
    have ih := sq_run (d :: y) (x.1 ++ (if x.2 then [32] else []) ++ [c], false) (by simp) fun e he => hw e (List.mem_cons_of_mem _ he)
    rw [List.foldl_cons, show sqStep x c = (x.1 ++ (if x.2 then [32] else []) ++ [c], false) by simp [sqStep, h1], ih]
    simp
/-- one rune of a text as the language reads it -/
theorem dec_byte (s : List UInt8) (i : Nat) (hi : i < s.length) : ∃ r m, Utf8.decode ⟨s.toArray⟩ i = (r, m) ∧ 1 ≤ m ∧ i + m ≤ s.length ∧ ((r = at0 (s.drop i) 0 ∧ r < 128 ∧ m = 1) ∨ (128 ≤ r ∧ ∀ k, k < m → 128 ≤ at0 (s.drop i) k)) := by
  have hpos : 0 < (s.drop i).length := by simp; omega
  have hpr := pieceR_rng (s.drop i) hpos
  have hdl : (s.drop i).length = s.length - i := by simp
  cases hp : (pieceR (s.drop i)).2.2 with
  | true =>
    have hr := right_of _ hp
    obtain ⟨r, g1, g2, g3, g4, g5, g6⟩ := enc_right (s.drop i) hpos hr
    refine ⟨_, _, decode_right s i hr, hpr.1, by omega, ?_⟩
    rw [g1, Int.toNat_natCast]
    rcases Nat.lt_or_ge r 128 with h | h
    · obtain ⟨e1, e2⟩ := g5 h
      exact .inl ⟨e2.symm, h, e1⟩
    · exact .inr ⟨h, g6 h⟩
  | false =>
    refine ⟨_, _, decode_wrong s i hp, Nat.le_refl _, by omega, .inr ⟨by decide, fun k hk => ?_⟩⟩
    obtain rfl : k = 0 := by omega
    rcases Nat.lt_or_ge (at0 (s.drop i) 0) 128 with h | h
    · rw [right1 _ h] at hp; cases hp
    · exact h
/-- a piece of a text, by its ends -/
def cutAB (s : List UInt8) (x : Nat × Nat) : List UInt8 := (s.take x.2).drop x.1
theorem join_snoc1 (F : List (List UInt8)) (x : List UInt8) : joinR [32] (F ++ [x]) = joinR [32] F ++ (if F = [] then [] else [32]) ++ x := by
  cases F with
  | nil => simp [joinR]
  | cons y r => simp [joinR]
theorem join_ne (F : List (List UInt8)) (h : ∀ x ∈ F, x ≠ []) : joinR [32] F = [] ↔ F = [] := by
  cases F with
  | nil => simp [joinR]
  | cons y r =>
    have := h y (by simp)
    simp [joinR, this]
/-- what lies in the text so far, by the pieces found -/
def sqOf (s : List UInt8) (pos : Nat) : List (Nat × Nat) → Option Nat → List UInt8 × Bool
  | acc, none => (joinR [32] (acc.map (cutAB s)), !decide (acc = []))
  | acc, some a => (joinR [32] ((acc ++ [(a, pos)]).map (cutAB s)), false)
theorem cut_grow (s : List UInt8) (a pos m : Nat) (h : a ≤ pos) (hp : pos ≤ s.length) : cutAB s (a, pos + m) = cutAB s (a, pos) ++ (s.drop pos).take m := by
  unfold cutAB
  dsimp only
  rw [List.take_add, List.drop_append_of_le_length (by rw [List.length_take]; omega)]
theorem cut_ne (s : List UInt8) (x : Nat × Nat) (h : x.1 < x.2) (h2 : x.2 ≤ s.length) : cutAB s x ≠ [] := by
  intro e
  have := congrArg List.length e
  unfold cutAB at this
  simp at this
  omega
theorem sq_spans (s : List UInt8) (p : Nat → Bool) (hp : ∀ r, r ≤ 1114111 → p r = whiteR r) : ∀ (f pos : Nat) (st : Option Nat) (acc : List (Nat × Nat)), s.length ≤ pos + f → pos ≤ s.length →
    (∀ a, st = some a → a < pos) → (∀ x ∈ acc, x.1 < x.2 ∧ x.2 ≤ s.length) → sqF (s.take pos) = sqOf s pos acc st →
    sqF s = sqOf s s.length (Lib.spansFromP p ⟨s.toArray⟩ f pos st acc).1 (Lib.spansFromP p ⟨s.toArray⟩ f pos st acc).2 ∧
      ∀ x ∈ (Lib.spansFromP p ⟨s.toArray⟩ f pos st acc).1, x.1 < x.2 ∧ x.2 ≤ s.length
  | 0, pos, st, acc, hf, hl, _, ha, he => by
    obtain rfl : pos = s.length := by omega
    rw [List.take_length] at he
    exact ⟨he, ha⟩
  | f + 1, pos, st, acc, hf, hl, hst, ha, he => by
    rcases Nat.lt_or_ge pos s.length with hlt | hge
    · obtain ⟨r, m, hd, hm1, hml, hcase⟩ := dec_byte s pos hlt
      have hrle : r ≤ 1114111 := by have := Lib.rune_le ⟨s.toArray⟩ pos; rw [hd] at this; exact this
      have htake : sqF (s.take (pos + m)) = ((s.drop pos).take m).foldl sqStep (sqF (s.take pos)) := by
        unfold sqF
        rw [List.take_add, List.foldl_append]
      have hsz : pos < (ByteArray.mk s.toArray).size := by rw [size_str]; exact hlt
      have hne : (s.drop pos).take m ≠ [] := by
        intro e
        have := congrArg List.length e
        simp at this
        omega
      have hj : ∀ acc' : List (Nat × Nat), (∀ x ∈ acc', x.1 < x.2 ∧ x.2 ≤ s.length) → (joinR [32] (acc'.map (cutAB s)) = [] ↔ acc' = []) := fun acc' h => by
        rw [join_ne _ fun x hx => by
          obtain ⟨y, hy, rfl⟩ := List.mem_map.1 hx
          exact cut_ne s y (h y hy).1 (h y hy).2]
        simp
      cases hw : whiteR r with
      | true =>
        have h128 : r < 128 := by
          rcases Nat.lt_or_ge r 128 with h | h
          · exact h
          · rw [white_low h] at hw; cases hw
        rcases hcase with ⟨hr, _, rfl⟩ | ⟨h, _⟩
        rotate_left
        · omega
        have hone : (s.drop pos).take 1 = [UInt8.ofNat r] := by
          rw [List.drop_eq_getElem_cons hlt, List.take_succ_cons, List.take_zero, hr]
          simp [at0, hlt]
        have hstep : sqF (s.take (pos + 1)) = ((sqF (s.take pos)).1, !decide ((sqF (s.take pos)).1 = [])) := by
          rw [htake, hone, List.foldl_cons, List.foldl_nil]
          have : (UInt8.ofNat r).toNat = r := by simp; omega
          unfold sqStep
          rw [this, if_pos hw]
        cases st with
        | none =>
          have e : Lib.spansFromP p ⟨s.toArray⟩ (f + 1) pos none acc = Lib.spansFromP p ⟨s.toArray⟩ f (pos + 1) none acc := by
            simp only [Lib.spansFromP, if_pos hsz, hd, hp r hrle, hw, if_true]
          rw [e]
          refine sq_spans s p hp f (pos + 1) none acc (by omega) (by omega) (fun a h => by cases h) ha ?_
          rw [hstep, he]
          simp only [sqOf]
          exact Prod.ext rfl (congrArg (fun b => !b) (decide_eq_decide.2 (hj acc ha)))
        | some a =>
          have e : Lib.spansFromP p ⟨s.toArray⟩ (f + 1) pos (some a) acc = Lib.spansFromP p ⟨s.toArray⟩ f (pos + 1) none (acc ++ [(a, pos)]) := by
            simp only [Lib.spansFromP, if_pos hsz, hd, hp r hrle, hw, if_true]
          have ha' : ∀ x ∈ acc ++ [(a, pos)], x.1 < x.2 ∧ x.2 ≤ s.length := fun x hx => by
            rcases List.mem_append.1 hx with h | h
            · exact ha x h
            · obtain rfl := List.mem_singleton.1 h
              exact ⟨hst a rfl, hl⟩
          rw [e]
          refine sq_spans s p hp f (pos + 1) none _ (by omega) (by omega) (fun a h => by cases h) ha' ?_
          rw [hstep, he]
          simp only [sqOf]
          refine Prod.ext rfl (congrArg (fun b => !b) (decide_eq_decide.2 ((hj _ ha').trans ?_)))
          exact Iff.rfl
      | false =>
        have hnw : ∀ c ∈ (s.drop pos).take m, whiteR c.toNat = false := by
          intro c hc
          obtain ⟨k, hk, rfl⟩ := List.getElem_of_mem hc
          have hkm : k < m := by simp at hk; omega
          have hat : at0 (s.drop pos) k = (((s.drop pos).take m)[k]).toNat := by
            simp only [at0]
            rw [List.getElem_take, List.getElem?_eq_getElem (by simp at hk ⊢; omega)]
            rfl
          rcases hcase with ⟨hr, _, rfl⟩ | ⟨h, h2⟩
          · obtain rfl : k = 0 := by omega
            rw [← hat, ← hr]; exact hw
          · rw [← hat]; exact white_low (h2 k hkm)
        have hrun := sq_run _ (sqF (s.take pos)) hne hnw
        rw [← htake] at hrun
        cases st with
        | none =>
          have e : Lib.spansFromP p ⟨s.toArray⟩ (f + 1) pos none acc = Lib.spansFromP p ⟨s.toArray⟩ f (pos + m) (some pos) acc := by
            simp only [Lib.spansFromP, if_pos hsz, hd, hp r hrle, hw, if_false, Bool.false_eq_true]
          rw [e]
          refine sq_spans s p hp f (pos + m) (some pos) acc (by omega) hml (fun a h => by cases h; omega) ha ?_
          rw [hrun, he]
          simp only [sqOf]
          rw [List.map_append, List.map_cons, List.map_nil, join_snoc1, cut_grow s pos pos m (Nat.le_refl _) hl]
          have : cutAB s (pos, pos) = [] := by unfold cutAB; simp
          rw [this, List.nil_append]
          by_cases h0 : acc = []
          · simp [h0]
          · simp [h0]
        | some a =>
          have e : Lib.spansFromP p ⟨s.toArray⟩ (f + 1) pos (some a) acc = Lib.spansFromP p ⟨s.toArray⟩ f (pos + m) (some a) acc := by
            simp only [Lib.spansFromP, if_pos hsz, hd, hp r hrle, hw, if_false, Bool.false_eq_true]
          have hap := hst a rfl
          rw [e]
          refine sq_spans s p hp f (pos + m) (some a) acc (by omega) hml (fun b h => by cases h; omega) ha ?_
          rw [hrun, he]
          simp only [sqOf]
          rw [List.map_append, List.map_append, List.map_cons, List.map_nil, List.map_cons, List.map_nil, join_snoc1, join_snoc1, cut_grow s a pos m (by omega) hl]
          simp
    · obtain rfl : pos = s.length := by omega
      rw [Lib.spansFromP_end _ _ _ _ _ _ (by rw [size_str]; omega)]
      rw [List.take_length] at he
      exact ⟨he, ha⟩
theorem fields_sq (s : List UInt8) (p : Nat → Bool) (hp : ∀ r, r ≤ 1114111 → p r = whiteR r) :
    ∃ L : List (List UInt8), (Lib.goFieldsP p ⟨s.toArray⟩).map Value.string = strs L ∧ (Lib.goFieldsP p ⟨s.toArray⟩).length = L.length ∧ joinR [32] L = sqR s := by
  obtain ⟨h1, h2⟩ := sq_spans s p hp s.length 0 none [] (by omega) (Nat.zero_le _) (fun a h => by cases h) (fun x h => by cases h) rfl
  have hspan : Lib.spansOfP p ⟨s.toArray⟩ = Lib.closeSpans ⟨s.toArray⟩ (Lib.spansFromP p ⟨s.toArray⟩ s.length 0 none []) := by unfold Lib.spansOfP; rw [size_str]
  refine ⟨(Lib.spansOfP p ⟨s.toArray⟩).map (cutAB s), ?_, ?_, ?_⟩
  · unfold Lib.goFieldsP strs
    rw [List.map_map, List.map_map]
    refine List.map_congr_left fun x _ => ?_
    simp only [Function.comp]
    unfold cutAB
    show Value.string _ = Value.string _
    congr 1
    apply ByteArray.ext
    apply Array.ext'
    simp [List.drop_take]
  · unfold Lib.goFieldsP
    simp
  · unfold sqR
    rw [h1, hspan]
    unfold Lib.closeSpans
    rw [size_str]
    cases h : (Lib.spansFromP p ⟨s.toArray⟩ s.length 0 none []).2 with
    | none => rfl
    | some a => rfl
end Go.Proofs.YtffaoehhhdcjjaaDoor

/-
  Package link: paths without dot segments; the twins.
-/
set_option linter.unusedSimpArgs false
set_option linter.unusedVariables false
set_option linter.unnecessarySimpa false
namespace Go.Sv
open Go Go.RowKit
section
variable {P : Program} {σ : Env} {w : World} {d : Option Tmp} {ty t t' : TypeId} {pos : String} {af : Array Edge} {g : Option (Nat × Bool)} {x y : Operand} {a b : Int} {ats : Array TypeId}
theorem y_max (hx : evl σ x = int a) (hy : evl σ y = int b) : Y P σ ⟨d, .call ⟨.builtin .max, #[x, y], ats⟩, ty, pos, af, g⟩ w (int (max a b)) w := by
  refine Y.val ?_; simp only [execOp, resolve, Sem.run_bind, Sem.run_pure, Result.andThen_ok, invoke, builtin]
  have e : (if b > a then b else a) = max a b := by omega
  simp [hx, hy, Builtin.max_, Builtin.max2, e]
end
end Go.Sv
namespace Go.Proofs.YtffaoehhhdcjjaaDoor
open Go Go.Sv Go.RowKit

/-- how many bytes stand ahead of the first of some -/
def upR (l sm : List UInt8) : Nat := (l.takeWhile fun c => decide (c ∉ sm)).length
theorem upR_le (l sm : List UInt8) : upR l sm ≤ l.length := (List.takeWhile_sublist _).length_le
theorem upR_cons (c : UInt8) (l sm : List UInt8) : upR (c :: l) sm = if c ∈ sm then 0 else upR l sm + 1 := by
  unfold upR
  rw [List.takeWhile_cons]
  by_cases h : c ∈ sm <;> simp [h]
theorem upR_at : ∀ (l sm : List UInt8) (i : Nat), i < l.length → (∀ j, j < i → UInt8.ofNat (at0 l j) ∉ sm) → UInt8.ofNat (at0 l i) ∈ sm → upR l sm = i
  | [], _, i, h, _, _ => by simp at h
  | c :: l, sm, 0, _, _, h => by
    rw [upR_cons, if_pos (by simpa [at0] using h)]
  | c :: l, sm, i + 1, hi, hj, h => by
    have h0 := hj 0 (by omega)
    rw [upR_cons, if_neg (by simpa [at0] using h0), upR_at l sm i (by simpa using hi) (fun j hj' => by have := hj (j + 1) (by omega); simpa [at0] using this) (by simpa [at0] using h)]
theorem upR_all : ∀ (l sm : List UInt8), (∀ j, j < l.length → UInt8.ofNat (at0 l j) ∉ sm) → upR l sm = l.length
  | [], _, _ => rfl
  | c :: l, sm, hj => by
    have h0 := hj 0 (by simp)
    rw [upR_cons, if_neg (by simpa [at0] using h0), upR_all l sm (fun j hj' => by have := hj (j + 1) (by simpa using hj'); simpa [at0] using this)]
    rfl
theorem indexByte_up : ∀ (l : List UInt8) (c : UInt8), Lib.indexByte l c = if c ∈ l then (upR l [c] : Int) else -1
  | [], c => by simp [Lib.indexByte]
  | b :: l, c => by
    have h := indexByte_up l c
    have hg := Lib.indexByte_ge l c
    simp only [Lib.indexByte, upR_cons, List.mem_cons, List.mem_singleton, List.not_mem_nil, or_false]
    by_cases hb : b = c
    · simp [hb]
    · have hb' : ¬ c = b := fun h => hb h.symm
      simp only [beq_iff_eq, hb, hb', if_false, false_or]
      by_cases hm : c ∈ l
      · rw [if_pos hm] at h ⊢
        rw [h, if_neg (by omega)]; omega
      · rw [if_neg hm] at h ⊢
        rw [h]; rfl
theorem up_not {l : List UInt8} {c : UInt8} (h : c ∉ l) : upR l [c] = l.length := by
  refine upR_all l [c] fun j hj hm => h ?_
  simp only [at0, List.getElem?_eq_getElem hj, Option.getD_some, List.mem_singleton] at hm
  rw [← hm]
  simp
theorem hasPrefix_ok (s p : List UInt8) (w : World) : PureC Tryd.prog 77 #[str s, str p] w (.bool (p.isPrefixOf s)) := by
  refine Calls.mono (Tryd.strings_HasPrefix ⟨s.toArray⟩ ⟨p.toArray⟩ w) ?_
  rintro e w' ⟨rfl, rfl⟩
  exact ⟨_, rfl, rfl, Frm.refl _⟩













/-- the last place below n where c stands -/
def lastF (l : List UInt8) (c : Nat) : Nat → Int
  | 0 => -1
  | n + 1 => if at0 l n = c then n else lastF l c n
def lastR (l : List UInt8) (c : Nat) : Int := lastF l c l.length
theorem lastF_rng (l : List UInt8) (c : Nat) : ∀ n, -1 ≤ lastF l c n ∧ lastF l c n < n
  | 0 => by simp [lastF]
  | n + 1 => by
    have := lastF_rng l c n
    simp only [lastF]
    split <;> omega
theorem last0_ok (l : List UInt8) (c : Nat) (hb : l.length ≤ 4611686018427387904) (w : World) : PureC Tryd.prog 86 #[str l, byt c] w (int (lastR l c)) := by
  refine enter (l := [str l, byt c]) Tryd.func86 rfl Tryd.ntmps86 (by kernel_rfl) rfl ?_
  refine sgo ?_
  refine wcloop (X := Nat) (fun x => [(0, str l), (1, byt c), (5, int ((x : Int) - 1))])
    (fun x wr => x ≤ l.length ∧ lastF l c x = lastR l c ∧ Frm w wr) (fun x => x) l.length ⟨rfl, rfl, rfl, trivial⟩ ⟨Nat.le_refl _, rfl, Frm.refl _⟩ ?_
  rintro x wr ρ ⟨hx, he, hfr⟩
  refine sgo ?_
  (show WC _ _ _ _ _ _ _; first | refine WC_dec rfl (fun hc => ?_) (fun hc => ?_) | refine WC_cond rfl (fun hc => ?_) (fun hc => ?_))
  · obtain ⟨k, rfl⟩ : ∃ k, x = k + 1 := ⟨x - 1, by omega⟩
    simp only [lastF] at he
    refine sgo ?_
    have e : (((k + 1 : Nat) : Int) - 1).toNat = k := by omega
    rw [e]
    (show WC _ _ _ _ _ _ _; first | refine WC_dec rfl (fun hc => ?_) (fun hc => ?_) | refine WC_cond rfl (fun hc => ?_) (fun hc => ?_))
    · rw [if_pos (by simp only [at0]; omega)] at he
      refine sgo ?_
      (first | refine fp1 (.inl rfl) rfl rfl ?_ | refine fp2 (.inl rfl) rfl rfl rfl ?_ | refine fp3 (.inl rfl) rfl rfl rfl rfl ?_ | refine fp0 (.inr rfl) rfl ?_ | refine fp0 (.inl rfl) rfl ?_ | refine fp1 (.inr rfl) rfl rfl ?_); refine ⟨?_, by (first | exact Frm.refl _ | assumption | exact Go.Sv.Sep.frm (by assumption) | (refine Frm.trans ?_ (by assumption); first | exact Frm.refl _ | assumption))⟩; (try simp only [realB, rv_true, Nat.reduceBEq, cond_true, cond_false, entG, real_lif, updGL])
      rw [← he]
      refine congrArg int ?_
      omega
    · rw [if_neg (by simp only [at0]; omega)] at he
      refine sgo ?_
      exact ⟨k, ⟨rfl, rfl, congrArg (fun n : Int => int (n - 1)) (by omega), trivial⟩, ⟨by omega, he, hfr⟩, by omega⟩
  · obtain rfl : x = 0 := by omega
    refine sgo ?_
    (first | refine fp1 (.inl rfl) rfl rfl ?_ | refine fp2 (.inl rfl) rfl rfl rfl ?_ | refine fp3 (.inl rfl) rfl rfl rfl rfl ?_ | refine fp0 (.inr rfl) rfl ?_ | refine fp0 (.inl rfl) rfl ?_ | refine fp1 (.inr rfl) rfl rfl ?_); refine ⟨?_, by (first | exact Frm.refl _ | assumption | exact Go.Sv.Sep.frm (by assumption) | (refine Frm.trans ?_ (by assumption); first | exact Frm.refl _ | assumption))⟩; (try simp only [realB, rv_true, Nat.reduceBEq, cond_true, cond_false, entG, real_lif, updGL])
    rw [← he]
    rfl
theorem last_ok (l : List UInt8) (c : Nat) (hb : l.length ≤ 4611686018427387904) (w : World) : PureC Tryd.prog 53 #[str l, byt c] w (int (lastR l c)) := by
  refine enter (l := [str l, byt c]) Tryd.func53 rfl Tryd.ntmps53 (by kernel_rfl) rfl ?_
  refine sgo ?_
  refine wlpure (last0_ok l c hb _) fun w1 hf1 => ?_
  refine sgo ?_
  (first | refine fp1 (.inl rfl) rfl rfl ?_ | refine fp2 (.inl rfl) rfl rfl rfl ?_ | refine fp3 (.inl rfl) rfl rfl rfl rfl ?_ | refine fp0 (.inr rfl) rfl ?_ | refine fp0 (.inl rfl) rfl ?_ | refine fp1 (.inr rfl) rfl rfl ?_); refine ⟨?_, by (first | exact Frm.refl _ | assumption | exact Go.Sv.Sep.frm (by assumption) | (refine Frm.trans ?_ (by assumption); first | exact Frm.refl _ | assumption))⟩; (try simp only [realB, rv_true, Nat.reduceBEq, cond_true, cond_false, entG, real_lif, updGL])
def parR (l : List UInt8) : List UInt8 := l.take (max (lastR l 47) 0).toNat
theorem parent_ok (l : List UInt8) (hb : l.length ≤ 4611686018427387904) (w : World) : PureC Tryd.prog 78 #[str l] w (str (parR l)) := by
  refine enter (l := [str l]) Tryd.func78 rfl Tryd.ntmps78 (by kernel_rfl) rfl ?_
  refine sgo ?_
  refine wlpure (last_ok l 47 hb _) fun w1 hf1 => ?_
  have hr := lastF_rng l 47 l.length
  unfold parR
  unfold lastR
  generalize lastF l 47 l.length = m at *
  refine sgo ?_
  refine wl ?_ (y_max rfl rfl)
  refine sgo ?_
  (first | refine fp1 (.inl rfl) rfl rfl ?_ | refine fp2 (.inl rfl) rfl rfl rfl ?_ | refine fp3 (.inl rfl) rfl rfl rfl rfl ?_ | refine fp0 (.inr rfl) rfl ?_ | refine fp0 (.inl rfl) rfl ?_ | refine fp1 (.inr rfl) rfl rfl ?_); refine ⟨?_, by (first | exact Frm.refl _ | assumption | exact Go.Sv.Sep.frm (by assumption) | (refine Frm.trans ?_ (by assumption); first | exact Frm.refl _ | assumption))⟩; (try simp only [realB, rv_true, Nat.reduceBEq, cond_true, cond_false, entG, real_lif, updGL])

def pfx (p l : List UInt8) : Bool := p.isPrefixOf l
/-- a segment's end -/
def segN (l : List UInt8) : Nat := 1 + upR (l.drop 1) [47]
def dotStep (l out : List UInt8) : List UInt8 × List UInt8 :=
  if pfx [46, 46, 47] l then (l.drop 3, out)
  else if pfx [46, 47] l then (l.drop 2, out)
  else if pfx [47, 46, 47] l then (l.drop 2, out)
  else if l = [47, 46] then ([47], out)
  else if pfx [47, 46, 46, 47] l then (l.drop 3, parR out)
  else if l = [47, 46, 46] then ([47], parR out)
  else if l = [46] ∨ l = [46, 46] then ([], out)
  else (l.drop (segN l), out ++ l.take (segN l))
def dotsF : Nat → List UInt8 → List UInt8 → List UInt8
  | 0, _, out => out
  | f + 1, l, out => if l = [] then out else dotsF f (dotStep l out).1 (dotStep l out).2
theorem pfx_len {p l : List UInt8} (h : pfx p l = true) : p.length ≤ l.length := (List.isPrefixOf_iff_prefix.1 h).length_le
theorem dotStep_lt (l out : List UInt8) (h : l ≠ []) : (dotStep l out).1.length < l.length := by
  have h0 : 0 < l.length := List.length_pos_iff.2 h
  unfold dotStep
  repeat' split
  all_goals rename_i h1
  all_goals (try have hp := pfx_len h1)
  all_goals (try simp only [List.length_cons, List.length_nil] at hp)
  all_goals (try simp only [List.length_drop, segN])
  all_goals (try omega)
  all_goals (try (subst h1; simp; done))
  all_goals (try (simp; omega))
theorem dotsF_more : ∀ (f f' : Nat) (l out : List UInt8), l.length ≤ f → l.length ≤ f' → dotsF f l out = dotsF f' l out
  | 0, 0, _, _, _, _ => rfl
  | 0, f' + 1, l, out, h, _ => by
    have : l = [] := List.eq_nil_of_length_eq_zero (by omega)
    simp [dotsF, this]
  | f + 1, 0, l, out, _, h => by
    have : l = [] := List.eq_nil_of_length_eq_zero (by omega)
    simp [dotsF, this]
  | f + 1, f' + 1, l, out, h, h' => by
    simp only [dotsF]
    split
    · rfl
    · rename_i hne
      have := dotStep_lt l out hne
      exact dotsF_more f f' _ _ (by omega) (by omega)
def dotsL (l out : List UInt8) : List UInt8 := dotsF l.length l out
theorem dotsL_nil (out : List UInt8) : dotsL [] out = out := rfl
theorem dotsL_step (l out : List UInt8) (h : l ≠ []) : dotsL l out = dotsL (dotStep l out).1 (dotStep l out).2 := by
  have h1 := dotStep_lt l out h
  unfold dotsL
  obtain ⟨f, hf⟩ : ∃ f, l.length = f + 1 := ⟨l.length - 1, by omega⟩
  rw [hf, dotsF, if_neg h]
  exact dotsF_more _ _ _ _ (by omega) (Nat.le_refl _)
theorem parR_len (l : List UInt8) : (parR l).length ≤ l.length := by simp only [parR, List.length_take]; omega
theorem dotStep_len (l out : List UInt8) : (dotStep l out).1.length + (dotStep l out).2.length ≤ l.length + out.length := by
  have h0 := parR_len out
  unfold dotStep
  repeat' split
  all_goals rename_i h1
  all_goals (try simp only [List.length_drop, List.length_append, List.length_take, List.length_nil])
  all_goals (try omega)
  all_goals (try (subst h1; simp; done))
  all_goals (try (subst h1; simp; omega))
end Go.Proofs.YtffaoehhhdcjjaaDoor

/-
  Package link: Dots, walked.
-/
set_option linter.unusedSimpArgs false
set_option linter.unusedVariables false
set_option linter.unnecessarySimpa false
namespace Go.Proofs.YtffaoehhhdcjjaaDoor
open Go Go.Sv Go.RowKit

set_option maxHeartbeats 2000000 in
theorem dots_ok (l0 : List UInt8) (hb : l0.length ≤ 1073741824) (w : World) : PureC Tryd.prog 42 #[str l0] w (str (dotsL (mendR l0) [])) := by
  refine enter (l := [str l0]) Tryd.func42 rfl Tryd.ntmps42 (by kernel_rfl) rfl ?_
  refine sgo ?_
  refine wlpure (mend_ok l0 hb _) fun w1 hf1 => ?_
  have hml := mendR_len l0
  generalize mendR l0 = t at *
  refine sgo ?_
  refine wcloop (X := List UInt8 × List UInt8) (fun x => [(0, str x.1), (3, str x.2)])
    (fun x wr => dotsL x.1 x.2 = dotsL t [] ∧ x.1.length + x.2.length ≤ t.length ∧ Frm w wr) (fun x => x.1.length) (t, []) ⟨rfl, rfl, trivial⟩ ⟨rfl, by simp, hf1⟩ ?_
  rintro ⟨l, o⟩ wr ρ ⟨he, hlen, hfr⟩
  dsimp only at he hlen ⊢
  refine sgo ?_
  (show WC _ _ _ _ _ _ _; first | refine WC_dec rfl (fun hc => ?_) (fun hc => ?_) | refine WC_cond rfl (fun hc => ?_) (fun hc => ?_))
  · have hne : l ≠ [] := by simpa using hc
    clear hc
    have h0 : 0 < l.length := List.length_pos_iff.2 hne
    have fin : ∀ l' o' w', dotStep l o = (l', o') → Frm w w' → (dotsL l' o' = dotsL t [] ∧ l'.length + o'.length ≤ t.length ∧ Frm w w') ∧ l'.length < l.length := by
      intro l' o' w' h hw'
      have h1 := dotsL_step l o hne
      have h2 := dotStep_lt l o hne
      have h3 := dotStep_len l o
      rw [h] at h1 h2 h3
      exact ⟨⟨by rw [← h1]; exact he, by dsimp only at h3; omega, hw'⟩, h2⟩
    clear he
    refine sgo ?_
    refine wlpure (hasPrefix_ok l [46, 46, 47] _) fun w2 hf2 => ?_
    replace hfr := hfr.trans hf2
    clear hf2
    cases g1 : pfx [46, 46, 47] l with
    | true =>
      have hl := pfx_len g1
      simp only [List.length_cons, List.length_nil] at hl
      have hds : dotStep l o = (l.drop 3, o) := by unfold dotStep; rw [if_pos g1]
      unfold pfx at g1
      rw [g1]
      refine sgo ?_
      exact ⟨(l.drop 3, o), ⟨rfl, rfl, trivial⟩, fin _ _ _ hds hfr⟩
    | false =>
    have g1' : [46, 46, 47].isPrefixOf l = false := g1
    rw [g1']
    refine sgo ?_
    refine wlpure (hasPrefix_ok l [46, 47] _) fun w3 hf3 => ?_
    replace hfr := hfr.trans hf3
    clear hf3
    cases g2 : pfx [46, 47] l with
    | true =>
      have hl := pfx_len g2
      simp only [List.length_cons, List.length_nil] at hl
      have hds : dotStep l o = (l.drop 2, o) := by unfold dotStep; simp only [g1, g2, if_true, Bool.false_eq_true, if_false]
      unfold pfx at g2
      rw [g2]
      refine sgo ?_
      exact ⟨(l.drop 2, o), ⟨rfl, rfl, trivial⟩, fin _ _ _ hds hfr⟩
    | false =>
    have g2' : [46, 47].isPrefixOf l = false := g2
    rw [g2']
    refine sgo ?_
    refine wlpure (hasPrefix_ok l [47, 46, 47] _) fun w4 hf4 => ?_
    replace hfr := hfr.trans hf4
    clear hf4
    cases g3 : pfx [47, 46, 47] l with
    | true =>
      have hl := pfx_len g3
      simp only [List.length_cons, List.length_nil] at hl
      have hds : dotStep l o = (l.drop 2, o) := by unfold dotStep; simp only [g1, g2, g3, if_true, Bool.false_eq_true, if_false]
      unfold pfx at g3
      rw [g3]
      refine sgo ?_
      exact ⟨(l.drop 2, o), ⟨rfl, rfl, trivial⟩, fin _ _ _ hds hfr⟩
    | false =>
    have g3' : [47, 46, 47].isPrefixOf l = false := g3
    rw [g3']
    refine sgo ?_
    (show WC _ _ _ _ _ _ _; first | refine WC_dec rfl (fun hc => ?_) (fun hc => ?_) | refine WC_cond rfl (fun hc => ?_) (fun hc => ?_))
    · have hds : dotStep l o = ([47], o) := by unfold dotStep; simp only [g1, g2, g3, if_true, Bool.false_eq_true, if_false]; rw [if_pos hc]
      refine sgo ?_
      exact ⟨([47], o), ⟨rfl, rfl, trivial⟩, fin _ _ _ hds hfr⟩
    have g4 := hc
    clear hc
    refine sgo ?_
    refine wlpure (hasPrefix_ok l [47, 46, 46, 47] _) fun w5 hf5 => ?_
    replace hfr := hfr.trans hf5
    clear hf5
    cases g5 : pfx [47, 46, 46, 47] l with
    | true =>
      have hl := pfx_len g5
      simp only [List.length_cons, List.length_nil] at hl
      have hds : dotStep l o = (l.drop 3, parR o) := by unfold dotStep; simp only [g1, g2, g3, g4, g5, if_true, Bool.false_eq_true, if_false]
      unfold pfx at g5
      rw [g5]
      refine sgo ?_
      refine wcdraw ?_
      refine qgo ?_
      refine qlcallp (fun w _ => parent_ok o (by omega) w) ?_
      refine qgo ?_
      refine QL_nil ?_
      intro wd hwd
      refine sgo ?_
      exact ⟨(l.drop 3, parR o), ⟨rfl, rfl, trivial⟩, fin _ _ _ hds (hfr.trans hwd)⟩
    | false =>
    have g5' : [47, 46, 46, 47].isPrefixOf l = false := g5
    rw [g5']
    refine sgo ?_
    (show WC _ _ _ _ _ _ _; first | refine WC_dec rfl (fun hc => ?_) (fun hc => ?_) | refine WC_cond rfl (fun hc => ?_) (fun hc => ?_))
    · have hds : dotStep l o = ([47], parR o) := by unfold dotStep; simp only [g1, g2, g3, g4, g5, if_true, Bool.false_eq_true, if_false]; rw [if_pos hc]
      refine sgo ?_
      refine wlpure (parent_ok o (by omega) _) fun w6 hf6 => ?_
      refine sgo ?_
      exact ⟨([47], parR o), ⟨rfl, rfl, trivial⟩, fin _ _ _ hds (hfr.trans hf6)⟩
    have g6 := hc
    clear hc
    refine sgo ?_
    (show WC _ _ _ _ _ _ _; first | refine WC_dec rfl (fun hc => ?_) (fun hc => ?_) | refine WC_cond rfl (fun hc => ?_) (fun hc => ?_))
    · have hds : dotStep l o = ([], o) := by
        unfold dotStep; simp only [g1, g2, g3, g4, g5, g6, if_true, Bool.false_eq_true, if_false]
        rw [if_pos (by simpa [pkb_or] using hc)]
      refine sgo ?_
      exact ⟨([], o), ⟨rfl, rfl, trivial⟩, fin _ _ _ hds hfr⟩
    have g7 : ¬ (l = [46] ∨ l = [46, 46]) := by simpa [pkb_or] using hc
    clear hc
    have hds : dotStep l o = (l.drop (segN l), o ++ l.take (segN l)) := by unfold dotStep; simp only [g1, g2, g3, g4, g5, g6, g7, if_true, Bool.false_eq_true, if_false]
    have hib := indexByte_up (l.drop 1) 47
    have hup := upR_le (l.drop 1) [47]
    have hnot := fun h : (47 : UInt8) ∉ l.drop 1 => up_not h
    have hdl : (l.drop 1).length = l.length - 1 := by simp
    unfold segN at hds
    refine sgo ?_
    refine wlpure (indexByte_ok (l.drop 1) 47 _) fun w6 hf6 => ?_
    rw [show UInt8.ofNat 47 = 47 from rfl, hib]
    replace hfr := hfr.trans hf6
    generalize upR (l.drop 1) [47] = m at *
    by_cases hm : (47 : UInt8) ∈ l.drop 1
    · rw [if_pos hm]
      clear hnot hib
      refine sgo ?_
      (show WC _ _ _ _ _ _ _; first | refine WC_dec rfl (fun hc => ?_) (fun hc => ?_) | refine WC_cond rfl (fun hc => ?_) (fun hc => ?_))
      · omega
      have e : ((m : Int) + 1).toNat = 1 + m := by omega
      refine sgo ?_
      exact ⟨(l.drop (1 + m), o ++ l.take (1 + m)), ⟨congrArg (fun n => str (List.drop n l)) e, congrArg (fun n => str (o ++ List.take n l)) e, trivial⟩, fin _ _ _ hds hfr⟩
    · have hmm := hnot hm
      rw [if_neg hm]
      clear hnot hib
      have e : ((l.length : Int) - 1 + 1).toNat = 1 + m := by omega
      refine sgo ?_
      exact ⟨(l.drop (1 + m), o ++ l.take (1 + m)), ⟨congrArg (fun n => str (List.drop n l)) e, congrArg (fun n => str (o ++ List.take n l)) e, trivial⟩, fin _ _ _ hds hfr⟩
  · have hne : l = [] := by simpa using hc
    subst hne
    rw [dotsL_nil] at he
    refine sgo ?_
    (first | refine fp1 (.inl rfl) rfl rfl ?_ | refine fp2 (.inl rfl) rfl rfl rfl ?_ | refine fp3 (.inl rfl) rfl rfl rfl rfl ?_ | refine fp0 (.inr rfl) rfl ?_ | refine fp0 (.inl rfl) rfl ?_ | refine fp1 (.inr rfl) rfl rfl ?_); refine ⟨?_, by (first | exact Frm.refl _ | assumption | exact Go.Sv.Sep.frm (by assumption) | (refine Frm.trans ?_ (by assumption); first | exact Frm.refl _ | assumption))⟩; (try simp only [realB, rv_true, Nat.reduceBEq, cond_true, cond_false, entG, real_lif, updGL])
    rw [he]
end Go.Proofs.YtffaoehhhdcjjaaDoor

/-
  Package sieveref12: Dots.
-/
set_option linter.unusedSimpArgs false
set_option linter.unusedVariables false
set_option linter.unnecessarySimpa false
namespace Go.Proofs.YtffaoehhhdcjjaaDoor
open Go Go.Sv Go.RowKit

theorem mem_atH (sm : List UInt8) (n : Nat) (hn : n < 256) : UInt8.ofNat n ∈ sm ↔ ∃ k, k < sm.length ∧ at0 sm k = n := by
  constructor
  · intro h
    obtain ⟨k, hk, he⟩ := List.mem_iff_getElem.1 h
    refine ⟨k, hk, ?_⟩
    simp only [at0, List.getElem?_eq_getElem hk, Option.getD_some, he]
    rw [UInt8.toNat_ofNat_of_lt' (by simpa using hn)]
  · rintro ⟨k, hk, he⟩
    have : sm[k] = UInt8.ofNat n := by rw [← he]; simp [at0, hk]
    rw [← this]; exact List.getElem_mem hk
set_option maxHeartbeats 1000000 in
theorem upTo_ok (l sm : List UInt8) (hb : l.length ≤ 4611686018427387904) (hb2 : sm.length ≤ 4611686018427387904) (w : World) : PureC Tryd.prog 51 #[str l, str sm] w (int (upR l sm)) := by
  refine enter (l := [str l, str sm]) Tryd.func51 rfl Tryd.ntmps51 (by kernel_rfl) rfl ?_
  refine sgo ?_
  refine wcloop (X := Nat) (fun i => [(0, str l), (1, str sm), (8, int l.length), (9, int i)])
    (fun i wr => i ≤ l.length ∧ (∀ j, j < i → UInt8.ofNat (at0 l j) ∉ sm) ∧ Frm w wr) (fun i => l.length - i) 0 ⟨rfl, rfl, rfl, rfl, trivial⟩ ⟨by omega, by omega, Frm.refl _⟩ ?_
  rintro i wr ρ ⟨hi, hj, hfr⟩
  refine sgo ?_
  (show WC _ _ _ _ _ _ _; first | refine WC_dec rfl (fun hc => ?_) (fun hc => ?_) | refine WC_cond rfl (fun hc => ?_) (fun hc => ?_))
  · have hil : i < l.length := by omega
    have hmem := mem_atH sm (at0 l i) (at_lt l i)
    refine sgo ?_
    refine wcloop (X := Nat) (fun k => [(0, str l), (1, str sm), (5, int i), (8, int l.length), (9, int i), (13, int sm.length), (14, int k)])
      (fun k wr => k ≤ sm.length ∧ (∀ j, j < k → at0 sm j ≠ at0 l i) ∧ Frm w wr) (fun k => sm.length - k) 0 ⟨rfl, rfl, rfl, rfl, rfl, rfl, rfl, trivial⟩ ⟨by omega, by omega, hfr⟩ ?_
    rintro k wr' ρ' ⟨hk, hkj, hfr'⟩
    refine sgo ?_
    (show WC _ _ _ _ _ _ _; first | refine WC_dec rfl (fun hc => ?_) (fun hc => ?_) | refine WC_cond rfl (fun hc => ?_) (fun hc => ?_))
    · have hks : k < sm.length := by omega
      refine sgo ?_
      refine wcdraw ?_
      refine qgo ?_
      refine QL_nil ?_
      intro wd hwd
      replace hfr' := hfr'.trans hwd
      clear hwd
      refine sgo ?_
      (show WC _ _ _ _ _ _ _; first | refine WC_dec rfl (fun hc => ?_) (fun hc => ?_) | refine WC_cond rfl (fun hc => ?_) (fun hc => ?_))
      · have hin : UInt8.ofNat (at0 l i) ∈ sm := hmem.2 ⟨k, hks, by simp only [at0]; omega⟩
        have hup := upR_at l sm i hil hj hin
        refine sgo ?_
        (first | refine fp1 (.inl rfl) rfl rfl ?_ | refine fp2 (.inl rfl) rfl rfl rfl ?_ | refine fp3 (.inl rfl) rfl rfl rfl rfl ?_ | refine fp0 (.inr rfl) rfl ?_ | refine fp0 (.inl rfl) rfl ?_ | refine fp1 (.inr rfl) rfl rfl ?_); refine ⟨?_, by (first | exact Frm.refl _ | assumption | exact Go.Sv.Sep.frm (by assumption) | (refine Frm.trans ?_ (by assumption); first | exact Frm.refl _ | assumption))⟩; (try simp only [realB, rv_true, Nat.reduceBEq, cond_true, cond_false, entG, real_lif, updGL])
        rw [hup]
      · refine sgo ?_
        refine ⟨k + 1, ⟨rfl, rfl, rfl, rfl, rfl, rfl, rfl, trivial⟩, ⟨by omega, ?_, hfr'⟩, by omega⟩
        intro j hj'
        rcases Nat.lt_or_ge j k with h | h
        · exact hkj j h
        · obtain rfl : j = k := by omega
          simp only [at0]
          omega
    · obtain rfl : k = sm.length := by omega
      refine sgo ?_
      refine ⟨i + 1, ⟨rfl, rfl, rfl, rfl, trivial⟩, ⟨by omega, ?_, hfr'⟩, by omega⟩
      intro j hj'
      rcases Nat.lt_or_ge j i with h | h
      · exact hj j h
      · obtain rfl : j = i := by omega
        intro hm
        obtain ⟨k, hk', he⟩ := hmem.1 hm
        exact hkj k hk' he
  · obtain rfl : i = l.length := by omega
    have hup := upR_all l sm hj
    refine sgo ?_
    (first | refine fp1 (.inl rfl) rfl rfl ?_ | refine fp2 (.inl rfl) rfl rfl rfl ?_ | refine fp3 (.inl rfl) rfl rfl rfl rfl ?_ | refine fp0 (.inr rfl) rfl ?_ | refine fp0 (.inl rfl) rfl ?_ | refine fp1 (.inr rfl) rfl rfl ?_); refine ⟨?_, by (first | exact Frm.refl _ | assumption | exact Go.Sv.Sep.frm (by assumption) | (refine Frm.trans ?_ (by assumption); first | exact Frm.refl _ | assumption))⟩; (try simp only [realB, rv_true, Nat.reduceBEq, cond_true, cond_false, entG, real_lif, updGL])
    rw [hup]






































































































































































































end Go.Proofs.YtffaoehhhdcjjaaDoor

/-
  Lines of tokens, read: plain laws.
-/
set_option linter.unusedSimpArgs false
set_option linter.unusedVariables false
set_option linter.unnecessarySimpa false
namespace Go.Proofs.YtffaoehhhdcjjaaDoor
open Go Go.Sv Go.RowKit

/-- behind a first mark: the text up to the next, and the rest -/
def unqR : List UInt8 → List UInt8 → Option (List UInt8 × List UInt8)
  | [], _ => none
  | c :: l, acc =>
    if c.toNat = 34 then some (acc, l)
    else if c.toNat = 9 then none
    else if c.toNat = 92 then
      match l with
      | [] => none
      | d :: l' => if d.toNat = 110 then unqR l' (acc ++ [10]) else if d.toNat = 116 then unqR l' (acc ++ [9]) else if d.toNat = 34 ∨ d.toNat = 92 then unqR l' (acc ++ [d]) else none
    else unqR l (acc ++ [c])
theorem unqR_cons (c : UInt8) (l acc : List UInt8) : unqR (c :: l) acc =
    if c.toNat = 34 then some (acc, l)
    else if c.toNat = 9 then none
    else if c.toNat = 92 then
      match l with
      | [] => none
      | d :: l' => if d.toNat = 110 then unqR l' (acc ++ [10]) else if d.toNat = 116 then unqR l' (acc ++ [9]) else if d.toNat = 34 ∨ d.toNat = 92 then unqR l' (acc ++ [d]) else none
    else unqR l (acc ++ [c]) := by
  cases l <;> rfl
/-- a quoted text at the front -/
def qtxR : List UInt8 → Option (List UInt8 × List UInt8)
  | [] => none
  | c :: l => if c.toNat = 34 then unqR l [] else none
theorem unqR_suf : ∀ (n : Nat) (l acc : List UInt8) (t r : List UInt8), l.length ≤ n → unqR l acc = some (t, r) → r <:+ l ∧ r.length < l.length ∧ t.length + r.length + 1 ≤ acc.length + l.length
  | n, [], acc, t, r, hn, h => by simp [unqR] at h
  | 0, c :: l, acc, t, r, hn, h => by simp at hn
  | n + 1, c :: l, acc, t, r, hn, h => by
    simp only [List.length_cons] at hn
    rw [unqR_cons] at h
    split at h
    · injection h with h; injection h with h1 h2
      subst h1 h2
      exact ⟨List.suffix_cons _ _, by simp, by simp; omega⟩
    split at h
    · cases h
    split at h
    · cases l with
      | nil => cases h
      | cons d l' =>
        simp only [List.length_cons] at hn
        have key : ∀ x : UInt8, unqR l' (acc ++ [x]) = some (t, r) → r <:+ c :: d :: l' ∧ r.length < (c :: d :: l').length ∧ t.length + r.length + 1 ≤ acc.length + (c :: d :: l').length := fun x hx => by
          obtain ⟨h1, h2, h3⟩ := unqR_suf n l' _ t r (by omega) hx
          simp only [List.length_append, List.length_cons, List.length_nil] at h3 ⊢
          exact ⟨h1.trans ((List.suffix_cons d l').trans (List.suffix_cons c _)), by omega, by omega⟩
        dsimp only at h
        split at h
        · exact key _ h
        split at h
        · exact key _ h
        split at h
        · exact key _ h
        · cases h
    · obtain ⟨h1, h2, h3⟩ := unqR_suf n l _ t r (by omega) h
      simp only [List.length_append, List.length_cons, List.length_nil] at h3 ⊢
      exact ⟨h1.trans (List.suffix_cons c l), by omega, by omega⟩
theorem textR_suf {s t r : List UInt8} (h : qtxR s = some (t, r)) : r <:+ s ∧ r.length < s.length ∧ t.length + r.length + 2 ≤ s.length := by
  cases s with
  | nil => cases h
  | cons c l =>
    by_cases hc : c.toNat = 34
    · rw [qtxR, if_pos hc] at h
      obtain ⟨h1, h2, h3⟩ := unqR_suf l.length l [] t r (Nat.le_refl _) h
      simp only [List.length_nil, List.length_cons] at h3 ⊢
      exact ⟨h1.trans (List.suffix_cons c l), by omega, by omega⟩
    · rw [qtxR, if_neg hc] at h
      cases h
theorem drop_at {l : List UInt8} {i : Nat} {c : UInt8} (h : l[i]? = some c) : l.drop i = c :: l.drop (i + 1) := by
  obtain ⟨hi, rfl⟩ := List.getElem?_eq_some_iff.1 h
  exact List.drop_eq_getElem_cons hi
/-- one attribute at the front: a blank, its name, =, its value -/
def at1R (s : List UInt8) : Option (At × List UInt8) :=
  match qtxR (s.drop 1) with
  | none => none
  | some (n, r) => if r.take 1 = [61] then (match qtxR (r.drop 1) with | none => none | some (v, r2) => some (⟨n, v⟩, r2)) else none
theorem at1R_suf {s r : List UInt8} {a : At} (h : at1R s = some (a, r)) : r <:+ s ∧ r.length < s.length ∧ a.n.length + a.v.length + r.length + 4 ≤ s.length := by
  unfold at1R at h
  cases h1 : qtxR (s.drop 1) with
  | none => rw [h1] at h; cases h
  | some x =>
    obtain ⟨n, r1⟩ := x
    rw [h1] at h
    dsimp only at h
    split at h
    · cases h2 : qtxR (r1.drop 1) with
      | none => rw [h2] at h; cases h
      | some y =>
        obtain ⟨v, r2⟩ := y
        rw [h2] at h
        injection h with h; injection h with h3 h4
        subst h3 h4
        obtain ⟨a1, a2, a3⟩ := textR_suf h1
        obtain ⟨b1, b2, b3⟩ := textR_suf h2
        rw [List.length_drop] at a2 a3 b2 b3
        exact ⟨b1.trans ((List.drop_suffix 1 _).trans (a1.trans (List.drop_suffix 1 _))), by omega, by dsimp only; omega⟩
    · cases h
/-- attributes at the front, as many as there are -/
def atsR (s : List UInt8) (acc : List At) : Option (List At × List UInt8) :=
  if s.take 2 = [32, 34] then
    match h : at1R s with
    | none => none
    | some (a, r) =>
      have := (at1R_suf h).2.1
      atsR r (acc ++ [a])
  else some (acc, s)
termination_by s.length
/-- the name or the text that a kind has -/
def headT (k : Nat) (s : List UInt8) : Option (List UInt8 × List UInt8 × List UInt8) :=
  if k = 4 then some ([], [], s)
  else if s.take 1 = [32] then
    match qtxR (s.drop 1) with
    | none => none
    | some (x, r) => if k = 1 ∨ k = 2 then some (x, [], r) else some ([], x, r)
  else none
/-- behind the kind's word -/
def tokR (k : Nat) (s : List UInt8) : Option Tok :=
  match headT k s with
  | none => none
  | some (nm, tx, r) =>
    match atsR r [] with
    | none => none
    | some (es, r2) => if (r2 = [] ∨ r2 = [32, 47]) ∧ mayR ⟨k, nm, tx, es, decide (r2 = [32, 47]), 0, 0, 0⟩ = true then some ⟨k, nm, tx, es, decide (r2 = [32, 47]), 0, 0, 0⟩ else none
def wordsL : List (List UInt8) := [wText, wStart, wEnd, wComment, wDoctype]
def readF : Nat → List (List UInt8) → List UInt8 → Option Tok
  | _, [], _ => none
  | k, x :: ws, s => if x.isPrefixOf s = true then tokR k (s.drop x.length) else readF (k + 1) ws s
/-- a line, read -/
def readR (s : List UInt8) : Option Tok := readF 0 wordsL s
/-! ## lines -/
def linesG : List UInt8 → List UInt8 → List (List UInt8)
  | [], cur => if cur = [] then [] else [cur]
  | c :: l, cur => if c.toNat = 10 then cur :: linesG l [] else linesG l (cur ++ [c])
/-- a text's lines; a last one may lack its end -/
def linesR (s : List UInt8) : List (List UInt8) := linesG s []
/-- the tokens of lines, or the number of the first that is none -/
def parseF : Nat → List (List UInt8) → List Tok → List Tok × Nat
  | _, [], acc => (acc, 0)
  | n, x :: ls, acc => match readR x with | none => ([], n) | some t => parseF (n + 1) ls (acc ++ [t])
def parseR (s : List UInt8) : List Tok × Nat := parseF 1 (linesR s) []
end Go.Proofs.YtffaoehhhdcjjaaDoor

/-
  strings.Cut at a line's end; a text's lines, cut one by one.
-/
set_option linter.unusedSimpArgs false
set_option linter.unusedVariables false
set_option linter.unnecessarySimpa false
namespace Go.Proofs.YtffaoehhhdcjjaaDoor
open Go Go.Sv Go.RowKit

/-- what lies ahead of the first line's end, behind it, and whether there is one -/
def cutN : List UInt8 → List UInt8 × List UInt8 × Bool
  | [] => ([], [], false)
  | c :: l => if c.toNat = 10 then ([], l, true) else (c :: (cutN l).1, (cutN l).2)
def cutV (s : List UInt8) : Value := .tuple #[str (cutN s).1, str (cutN s).2.1, .bool (cutN s).2.2]
end Go.Proofs.YtffaoehhhdcjjaaDoor

/-
  strings.Split at a byte, as a law of lists; a text's lines.
-/
set_option linter.unusedSimpArgs false
set_option linter.unusedVariables false
set_option linter.unnecessarySimpa false
namespace Go.Sv
open Go Go.RowKit
/-- the pieces of a text between bytes -/
def spR (s : List UInt8) (c : UInt8) : List (List UInt8) := (Lib.splitB ⟨#[c]⟩ 0 (Lib.countB ⟨s.toArray⟩ ⟨#[c]⟩) ⟨s.toArray⟩).map fun x => x.data.toList
end Go.Sv
namespace Go.Proofs.YtffaoehhhdcjjaaDoor
open Go Go.Sv Go.RowKit

/-- the size cell of internal/bytealg holds a number -/
def MaxW (w : World) : Prop := ∃ m, w.cell? ⟨1, 0, none⟩ = some (.int .i64 m)
theorem MaxW.frm {w w' : World} (h : MaxW w) (hf : Frm w w') : MaxW w' := by
  obtain ⟨m, hm⟩ := h
  refine ⟨m, ?_⟩
  have hlt : 1 < w.heap.size := by
    rcases Nat.lt_or_ge 1 w.heap.size with h | h
    · exact h
    · unfold World.cell? at hm
      rw [Array.getElem?_eq_none h] at hm
      cases hm
  unfold World.cell? at hm ⊢
  rw [show w'.heap[1]? = w.heap[1]? from hf.block _ hlt]
  exact hm
end Go.Proofs.YtffaoehhhdcjjaaDoor

/-
  Queries and authorities: plain laws.
-/
set_option linter.unusedSimpArgs false
set_option linter.unusedVariables false
set_option linter.unnecessarySimpa false
namespace Go.Proofs.YtffaoehhhdcjjaaDoor
open Go Go.Sv Go.RowKit

/-- what lies ahead of the first byte c, and behind it -/
def cutC (c : UInt8) : List UInt8 → List UInt8 × List UInt8
  | [] => ([], [])
  | x :: l => if x = c then ([], l) else (x :: (cutC c l).1, (cutC c l).2)
def plusR (s : List UInt8) : List UInt8 := s.map fun c => if c = 43 then 32 else c
def sayR (s : List UInt8) : List UInt8 := decodeR (plusR s)
def pairR (p : List UInt8) : At := ⟨sayR (cutC 61 p).1, sayR (cutC 61 p).2⟩
/-- the pairs of a text -/
def pairsL (l : List UInt8) : List At := ((spR l 38).filter fun p => !decide (p = [])).map pairR
def pairsR (q : List UInt8) : List At := pairsL (mendR q)
theorem up_split (l : List UInt8) (c : UInt8) : (∀ y ∈ l.take (upR l [c]), y ≠ c) ∧ (upR l [c] < l.length → l = l.take (upR l [c]) ++ c :: l.drop (upR l [c] + 1)) := by
  induction l with
  | nil => exact ⟨by simp, fun h => by simp at h⟩
  | cons x l ih =>
    by_cases hx : x = c
    · subst hx
      have e : upR (x :: l) [x] = 0 := by unfold upR; simp
      rw [e]
      exact ⟨by simp, fun _ => by simp⟩
    · have e : upR (x :: l) [c] = upR l [c] + 1 := by unfold upR; simp [hx]
      rw [e]
      refine ⟨fun y hy => ?_, fun h => ?_⟩
      · rw [List.take_succ_cons] at hy
        rcases List.mem_cons.1 hy with rfl | hy
        · exact hx
        · exact ih.1 y hy
      · simp only [List.length_cons] at h
        have := ih.2 (by omega)
        rw [List.take_succ_cons, List.drop_succ_cons, List.cons_append, ← this]
/-! ## written -/
def formC (c : Nat) : List UInt8 := if letterR c || digitR c || decide (c = 42 ∨ c = 45 ∨ c = 46 ∨ c = 95) then [UInt8.ofNat c] else if c = 32 then [43] else pct c
def formL (s : List UInt8) : List UInt8 := s.flatMap fun c => formC c.toNat
def formR (s : List UInt8) : List UInt8 := formL (mendR s)
def pairW (a : At) : List UInt8 := formR a.n ++ [61] ++ formR a.v
/-! ## authorities -/
def tailD (l : List UInt8) : Nat := (l.reverse.takeWhile fun c => digitR c.toNat).length
def authR (h : List UInt8) : List UInt8 × List UInt8 × List UInt8 :=
  let r := if 0 ≤ lastR h 64 then (h.take (lastR h 64).toNat, h.drop ((lastR h 64).toNat + 1)) else ([], h)
  if 0 ≤ lastR r.2 58 ∧ (r.2.drop ((lastR r.2 58).toNat + 1)).all (fun c => digitR c.toNat) = true then (r.1, r.2.take (lastR r.2 58).toNat, r.2.drop ((lastR r.2 58).toNat + 1)) else (r.1, r.2, [])
end Go.Proofs.YtffaoehhhdcjjaaDoor

/-
  Arrays written out; calls of function values in regions that draw.
-/
set_option linter.unusedSimpArgs false
set_option linter.unusedVariables false
set_option linter.unnecessarySimpa false
namespace Go.Sv
open Go Go.RowKit
section
variable {P : Program} {n : Nat} {ds : Ctx} {ops : Array Oper} {Q : Exit → Ctx → Env → World → Prop} {C : World → Prop} {QE : Env → Prop} {rest : List Oper} {σ : GE} {w : World} {v : Value} {d : Nat} {ty t e : TypeId} {pos : String} {af : Array Edge} {x : Operand} {xs : List Operand} {ats : Array TypeId} {zv : Value} {zs : List Value} {bytes bytes' k : Nat}
end
end Go.Sv

/-
  A builder as a piece of memory.
-/
set_option linter.unusedSimpArgs false
set_option linter.unusedVariables false
set_option linter.unnecessarySimpa false
namespace Go.Sv
open Go Go.RowKit
def pBld (T E : TypeId) (b : Nat) (q : Option Addr) (s : List UInt8) : Plot where
  foot := b :: rb q
  ok w := Bld T E w b q s
  view := (none, [])
  loc w w' h hb := by
    obtain ⟨pv, c, h⟩ := h
    refine ⟨pv, c, h.hp, (hb b List.mem_cons_self).trans h.cell, ⟨h.row.1, ?_⟩, h.ne⟩
    rcases h.row.2 with h1 | ⟨g, cap, cur, hv, h2, h3, h4⟩
    · exact .inl h1
    · exact .inr ⟨g, cap, cur, hv, h2, (hb g (List.mem_cons_of_mem _ (rb_own.1 (by rw [hv]; rfl)))).trans h3, h4⟩
  lt w h := h.lt
  sg _ _ := .inl rfl
section
variable {w0 w w' : World} {cs : List Plot} {T E : TypeId} {b : Nat} {q q' : Option Addr} {s s' : List UInt8}
/-- what is above a place is given away -/
theorem Sep.below {B : Nat} (h : Sep w0 w cs) (hB : w0.heap.size ≤ B) (hc : ∀ c ∈ cs, ∀ x ∈ c.foot, x < B) (hb : Below B w w') : Sep w0 w' cs :=
  ⟨Below.trans h.frm (hb.mono hB), fun c hcc => c.loc w w' (h.ok c hcc) fun x hx => hb.block x (hc c hcc x hx), h.low, h.apart⟩
end
end Go.Sv

/-
  A scope in which the run jumps back to its label, once.
-/
set_option linter.unusedSimpArgs false
set_option linter.unusedVariables false
set_option linter.unnecessarySimpa false
namespace Go.Sv
open Go Go.RowKit
/-- what a jump leaves -/
def jmpq (l : Nat) (c : Ctx) (K : Env → World → Prop) (Q : Exit → Ctx → Env → World → Prop) : Exit → Ctx → Env → World → Prop
  | .goto l', c', σ, w => l' = l ∧ c' = c ∧ K σ w
  | e, c', σ, w => Q e c' σ w
section
variable {P : Program} {n l : Nat} {ds : Ctx} {Q : Exit → Ctx → Env → World → Prop} {K : Ctx → Env → World → Prop} {L : Env → World → Prop} {σ : Env} {w : World} {c rest : Code}
end
theorem Sep.nilRow {w0 w : World} {cs : List Plot} (h : Sep w0 w cs) (size : Nat) : Sep w0 w (pRow size none 0 0 [] :: cs) := h.push (Frm.refl w) (Row.nil w size) (by simp [pRow, rb])
attribute [irreducible] jmpq
end Go.Sv

/-
  Package link: Pairs, form, Query, Authority.
-/
set_option linter.unusedSimpArgs false
set_option linter.unusedVariables false
set_option linter.unnecessarySimpa false
namespace Go.Proofs.YtffaoehhhdcjjaaDoor
open Go Go.Sv Go.RowKit

def fndC (s : List UInt8) (c : UInt8) : Bool := decide (0 ≤ Lib.indexByte s c)
/-! ## Pairs -/
def pairsO (L : List (List UInt8)) : List At := (L.filter fun p => !decide (p = [])).map pairR
/-! ## form -/
def okB : List UInt8 := [42, 45, 46, 95]
def okC (c : Nat) : Bool := letterR c || digitR c || decide (UInt8.ofNat c ∈ okB)
/-- memory that can be read, as a piece -/
def pIm (b : Nat) (l : List Value) : Plot where
  foot := if l = [] then [] else [b]
  ok w := Im [] w (pb b) l
  view := (pb b, l)
  loc w w' h hb := by
    by_cases hl : l = []
    · exact .inl hl
    · rw [if_neg hl] at hb
      have e := hb b (by simp)
      rcases h with h | ⟨a, ha, h1, h2, h3⟩
      · exact .inl h
      · obtain rfl : (⟨b, 0, none⟩ : Addr) = a := Option.some.inj ha
        have h2' : b < w'.heap.size := by
          rcases Nat.lt_or_ge b w'.heap.size with h | h
          · exact h
          · rw [Array.getElem?_eq_none h] at e
            have := (Array.getElem?_eq_getElem (show b < w.heap.size from h2))
            rw [this] at e; cases e
        exact .inr ⟨_, rfl, h1.mono e, h2', h3⟩
  lt w h x hx := by
    by_cases hl : l = []
    · rw [if_pos hl] at hx; cases hx
    · rw [if_neg hl, List.mem_singleton] at hx
      subst hx
      rcases h with h | ⟨a, ha, h1, h2, h3⟩
      · exact absurd h hl
      · obtain rfl : (⟨x, 0, none⟩ : Addr) = a := Option.some.inj ha
        exact h2
  sg _ h := h.sg
end Go.Proofs.YtffaoehhhdcjjaaDoor

/-
  Loops over functions, with memory in pieces.
-/
set_option linter.unusedSimpArgs false
set_option linter.unusedVariables false
set_option linter.unnecessarySimpa false
namespace Go.Sv
open Go Go.RowKit
def pLoop (l : Nat) (r : Loop) : Plot where
  foot := [l]
  ok w := LoopAt w l r
  view := (none, [])
  loc _ _ h hb := (hb l (by simp)).trans h
  lt _ h x hx := by rw [List.mem_singleton.1 hx]; exact h.lt
  sg _ _ := .inl rfl
def pDef (D : Nat) : Plot where
  foot := [D]
  ok w := NoDef w D
  view := (none, [])
  loc _ _ h hb := (hb D (by simp)).trans h
  lt _ h x hx := by rw [List.mem_singleton.1 hx]; exact h.lt
  sg _ _ := .inl rfl
section
variable {w0 w w' : World} {cs : List Plot} {l D i : Nat} {r r' : Loop}
theorem Sep.loop (h : Sep w0 w cs) (hf : Frm w w') (hL : LoopAt w' l r) (hN : NoDef w' D) (hl : w.heap.size ≤ l) (hD : w.heap.size ≤ D) (hne : l ≠ D) : Sep w0 w' (pLoop l r :: pDef D :: cs) := by
  refine h.seq (ds := [pLoop l r, pDef D]) ⟨hf, ?_, ?_, ?_⟩
  · intro c hc
    rcases List.mem_cons.1 hc with rfl | hc
    · exact hL
    · rw [List.mem_singleton.1 hc]; exact hN
  · intro c hc x hx
    rcases List.mem_cons.1 hc with rfl | hc
    · rw [List.mem_singleton.1 hx]; exact hl
    · rw [List.mem_singleton.1 hc] at hx; rw [List.mem_singleton.1 hx]; exact hD
  · rw [List.pairwise_cons]
    refine ⟨fun b hb x hx hx' => ?_, List.pairwise_singleton _ _⟩
    rw [List.mem_singleton.1 hb] at hx'
    rw [List.mem_singleton.1 hx] at hx'
    exact hne (List.mem_singleton.1 hx')
/-- a piece that is given away -/
theorem Sep.lose {c : Plot} (h : Sep w0 w (c :: cs)) (hl : Le c.foot w w') : Sep w0 w' cs := by
  have hp := h.apart
  rw [List.pairwise_cons] at hp
  exact h.tail.le hl (fun d hd x hx hm => hp.1 d hd x hm hx) (h.low _ List.mem_cons_self)
theorem Sep.undef (h : Sep w0 w (pDef D :: cs)) : Sep w0 (w.putObj D (.deferred none)) cs := h.lose (le_putObj w D _)
end
end Go.Sv

/- This seat's function types as instances (made by a program of ours). -/
namespace Go.Proofs.YtffaoehhhdcjjaaDoor
open Go Go.Sv
instance : Agg Tryd.prog 1 false := ⟨_, Tryd.underlying1, rfl⟩
instance : Inf Tryd.prog 1 (.nilFunc) 1 8 := ⟨by kernel_rfl⟩
instance : Agg Tryd.prog 23 false := ⟨_, Tryd.underlying23, rfl⟩
instance : Inf Tryd.prog 23 (.nilFunc) 1 8 := ⟨by kernel_rfl⟩
instance : Agg Tryd.prog 24 false := ⟨_, Tryd.underlying24, rfl⟩
instance : Inf Tryd.prog 24 (.nilFunc) 1 8 := ⟨by kernel_rfl⟩
instance : Agg Tryd.prog 26 false := ⟨_, Tryd.underlying26, rfl⟩
instance : Inf Tryd.prog 26 (.nilFunc) 1 8 := ⟨by kernel_rfl⟩
instance : Agg Tryd.prog 27 false := ⟨_, Tryd.underlying27, rfl⟩
instance : Inf Tryd.prog 27 (.nilFunc) 1 8 := ⟨by kernel_rfl⟩
instance : Agg Tryd.prog 28 false := ⟨_, Tryd.underlying28, rfl⟩
instance : Inf Tryd.prog 28 (.nilFunc) 1 8 := ⟨by kernel_rfl⟩
instance : Agg Tryd.prog 30 false := ⟨_, Tryd.underlying30, rfl⟩
instance : Inf Tryd.prog 30 (.nilFunc) 1 8 := ⟨by kernel_rfl⟩
instance : Agg Tryd.prog 31 false := ⟨_, Tryd.underlying31, rfl⟩
instance : Inf Tryd.prog 31 (.nilFunc) 1 8 := ⟨by kernel_rfl⟩
instance : Agg Tryd.prog 32 false := ⟨_, Tryd.underlying32, rfl⟩
instance : Inf Tryd.prog 32 (.nilFunc) 1 8 := ⟨by kernel_rfl⟩
instance : Agg Tryd.prog 37 false := ⟨_, Tryd.underlying37, rfl⟩
instance : Inf Tryd.prog 37 (.nilFunc) 1 8 := ⟨by kernel_rfl⟩
instance : Agg Tryd.prog 38 false := ⟨_, Tryd.underlying38, rfl⟩
instance : Inf Tryd.prog 38 (.nilFunc) 1 8 := ⟨by kernel_rfl⟩
instance : Agg Tryd.prog 40 false := ⟨_, Tryd.underlying40, rfl⟩
instance : Inf Tryd.prog 40 (.nilFunc) 1 8 := ⟨by kernel_rfl⟩
instance : Agg Tryd.prog 41 false := ⟨_, Tryd.underlying41, rfl⟩
instance : Inf Tryd.prog 41 (.nilFunc) 1 8 := ⟨by kernel_rfl⟩
instance : Agg Tryd.prog 45 false := ⟨_, Tryd.underlying45, rfl⟩
instance : Inf Tryd.prog 45 (.nilFunc) 1 8 := ⟨by kernel_rfl⟩
instance : Agg Tryd.prog 46 false := ⟨_, Tryd.underlying46, rfl⟩
instance : Inf Tryd.prog 46 (.nilFunc) 1 8 := ⟨by kernel_rfl⟩
instance : Agg Tryd.prog 47 false := ⟨_, Tryd.underlying47, rfl⟩
instance : Inf Tryd.prog 47 (.nilFunc) 1 8 := ⟨by kernel_rfl⟩
instance : Agg Tryd.prog 48 false := ⟨_, Tryd.underlying48, rfl⟩
instance : Inf Tryd.prog 48 (.nilFunc) 1 8 := ⟨by kernel_rfl⟩
instance : Agg Tryd.prog 51 false := ⟨_, Tryd.underlying51, rfl⟩
instance : Inf Tryd.prog 51 (.nilFunc) 1 8 := ⟨by kernel_rfl⟩
instance : Agg Tryd.prog 52 false := ⟨_, Tryd.underlying52, rfl⟩
instance : Inf Tryd.prog 52 (.nilFunc) 1 8 := ⟨by kernel_rfl⟩
instance : Agg Tryd.prog 55 false := ⟨_, Tryd.underlying55, rfl⟩
instance : Inf Tryd.prog 55 (.nilFunc) 1 8 := ⟨by kernel_rfl⟩
instance : Agg Tryd.prog 56 false := ⟨_, Tryd.underlying56, rfl⟩
instance : Inf Tryd.prog 56 (.nilFunc) 1 8 := ⟨by kernel_rfl⟩
instance : Agg Tryd.prog 57 false := ⟨_, Tryd.underlying57, rfl⟩
instance : Inf Tryd.prog 57 (.nilFunc) 1 8 := ⟨by kernel_rfl⟩
instance : Agg Tryd.prog 59 false := ⟨_, Tryd.underlying59, rfl⟩
instance : Inf Tryd.prog 59 (.nilFunc) 1 8 := ⟨by kernel_rfl⟩
instance : Agg Tryd.prog 61 false := ⟨_, Tryd.underlying61, rfl⟩
instance : Inf Tryd.prog 61 (.nilFunc) 1 8 := ⟨by kernel_rfl⟩
instance : Agg Tryd.prog 63 false := ⟨_, Tryd.underlying63, rfl⟩
instance : Inf Tryd.prog 63 (.nilFunc) 1 8 := ⟨by kernel_rfl⟩
instance : Agg Tryd.prog 64 false := ⟨_, Tryd.underlying64, rfl⟩
instance : Inf Tryd.prog 64 (.nilFunc) 1 8 := ⟨by kernel_rfl⟩
instance : Agg Tryd.prog 65 false := ⟨_, Tryd.underlying65, rfl⟩
instance : Inf Tryd.prog 65 (.nilFunc) 1 8 := ⟨by kernel_rfl⟩
instance : Agg Tryd.prog 66 false := ⟨_, Tryd.underlying66, rfl⟩
instance : Inf Tryd.prog 66 (.nilFunc) 1 8 := ⟨by kernel_rfl⟩
instance : Agg Tryd.prog 67 false := ⟨_, Tryd.underlying67, rfl⟩
instance : Inf Tryd.prog 67 (.nilFunc) 1 8 := ⟨by kernel_rfl⟩
instance : Agg Tryd.prog 68 false := ⟨_, Tryd.underlying68, rfl⟩
instance : Inf Tryd.prog 68 (.nilFunc) 1 8 := ⟨by kernel_rfl⟩
instance : Agg Tryd.prog 70 false := ⟨_, Tryd.underlying70, rfl⟩
instance : Inf Tryd.prog 70 (.nilFunc) 1 8 := ⟨by kernel_rfl⟩
instance : Agg Tryd.prog 71 false := ⟨_, Tryd.underlying71, rfl⟩
instance : Inf Tryd.prog 71 (.nilFunc) 1 8 := ⟨by kernel_rfl⟩
instance : Agg Tryd.prog 72 false := ⟨_, Tryd.underlying72, rfl⟩
instance : Inf Tryd.prog 72 (.nilFunc) 1 8 := ⟨by kernel_rfl⟩
instance : Agg Tryd.prog 73 false := ⟨_, Tryd.underlying73, rfl⟩
instance : Inf Tryd.prog 73 (.nilFunc) 1 8 := ⟨by kernel_rfl⟩
instance : Agg Tryd.prog 74 false := ⟨_, Tryd.underlying74, rfl⟩
instance : Inf Tryd.prog 74 (.nilFunc) 1 8 := ⟨by kernel_rfl⟩
instance : Agg Tryd.prog 76 false := ⟨_, Tryd.underlying76, rfl⟩
instance : Inf Tryd.prog 76 (.nilFunc) 1 8 := ⟨by kernel_rfl⟩
instance : Agg Tryd.prog 77 false := ⟨_, Tryd.underlying77, rfl⟩
instance : Inf Tryd.prog 77 (.nilFunc) 1 8 := ⟨by kernel_rfl⟩
instance : Agg Tryd.prog 78 false := ⟨_, Tryd.underlying78, rfl⟩
instance : Inf Tryd.prog 78 (.nilFunc) 1 8 := ⟨by kernel_rfl⟩
instance : Agg Tryd.prog 79 false := ⟨_, Tryd.underlying79, rfl⟩
instance : Inf Tryd.prog 79 (.nilFunc) 1 8 := ⟨by kernel_rfl⟩
instance : Agg Tryd.prog 83 false := ⟨_, Tryd.underlying83, rfl⟩
instance : Inf Tryd.prog 83 (.nilFunc) 1 8 := ⟨by kernel_rfl⟩
instance : Agg Tryd.prog 86 false := ⟨_, Tryd.underlying86, rfl⟩
instance : Inf Tryd.prog 86 (.nilFunc) 1 8 := ⟨by kernel_rfl⟩
instance : Agg Tryd.prog 88 false := ⟨_, Tryd.underlying88, rfl⟩
instance : Inf Tryd.prog 88 (.nilFunc) 1 8 := ⟨by kernel_rfl⟩
instance : Agg Tryd.prog 89 false := ⟨_, Tryd.underlying89, rfl⟩
instance : Inf Tryd.prog 89 (.nilFunc) 1 8 := ⟨by kernel_rfl⟩
instance : Agg Tryd.prog 91 false := ⟨_, Tryd.underlying91, rfl⟩
instance : Inf Tryd.prog 91 (.nilFunc) 1 8 := ⟨by kernel_rfl⟩
instance : Agg Tryd.prog 94 false := ⟨_, Tryd.underlying94, rfl⟩
instance : Inf Tryd.prog 94 (.nilFunc) 1 8 := ⟨by kernel_rfl⟩
instance : Agg Tryd.prog 95 false := ⟨_, Tryd.underlying95, rfl⟩
instance : Inf Tryd.prog 95 (.nilFunc) 1 8 := ⟨by kernel_rfl⟩
instance : Agg Tryd.prog 96 false := ⟨_, Tryd.underlying96, rfl⟩
instance : Inf Tryd.prog 96 (.nilFunc) 1 8 := ⟨by kernel_rfl⟩
instance : Agg Tryd.prog 97 false := ⟨_, Tryd.underlying97, rfl⟩
instance : Inf Tryd.prog 97 (.nilFunc) 1 8 := ⟨by kernel_rfl⟩
instance : Agg Tryd.prog 99 false := ⟨_, Tryd.underlying99, rfl⟩
instance : Inf Tryd.prog 99 (.nilFunc) 1 8 := ⟨by kernel_rfl⟩
instance : Agg Tryd.prog 100 false := ⟨_, Tryd.underlying100, rfl⟩
instance : Inf Tryd.prog 100 (.nilFunc) 1 8 := ⟨by kernel_rfl⟩
instance : Agg Tryd.prog 104 false := ⟨_, Tryd.underlying104, rfl⟩
instance : Inf Tryd.prog 104 (.nilFunc) 1 8 := ⟨by kernel_rfl⟩
instance : Agg Tryd.prog 105 false := ⟨_, Tryd.underlying105, rfl⟩
instance : Inf Tryd.prog 105 (.nilFunc) 1 8 := ⟨by kernel_rfl⟩
instance : Agg Tryd.prog 107 false := ⟨_, Tryd.underlying107, rfl⟩
instance : Inf Tryd.prog 107 (.nilFunc) 1 8 := ⟨by kernel_rfl⟩
instance : Agg Tryd.prog 108 false := ⟨_, Tryd.underlying108, rfl⟩
instance : Inf Tryd.prog 108 (.nilFunc) 1 8 := ⟨by kernel_rfl⟩
instance : Agg Tryd.prog 109 false := ⟨_, Tryd.underlying109, rfl⟩
instance : Inf Tryd.prog 109 (.nilFunc) 1 8 := ⟨by kernel_rfl⟩
instance : Agg Tryd.prog 110 false := ⟨_, Tryd.underlying110, rfl⟩
instance : Inf Tryd.prog 110 (.nilFunc) 1 8 := ⟨by kernel_rfl⟩
instance : Agg Tryd.prog 112 false := ⟨_, Tryd.underlying112, rfl⟩
instance : Inf Tryd.prog 112 (.nilFunc) 1 8 := ⟨by kernel_rfl⟩
instance : Agg Tryd.prog 113 false := ⟨_, Tryd.underlying113, rfl⟩
instance : Inf Tryd.prog 113 (.nilFunc) 1 8 := ⟨by kernel_rfl⟩
instance : Agg Tryd.prog 115 false := ⟨_, Tryd.underlying115, rfl⟩
instance : Inf Tryd.prog 115 (.nilFunc) 1 8 := ⟨by kernel_rfl⟩
instance : Agg Tryd.prog 116 false := ⟨_, Tryd.underlying116, rfl⟩
instance : Inf Tryd.prog 116 (.nilFunc) 1 8 := ⟨by kernel_rfl⟩
instance : Agg Tryd.prog 117 false := ⟨_, Tryd.underlying117, rfl⟩
instance : Inf Tryd.prog 117 (.nilFunc) 1 8 := ⟨by kernel_rfl⟩
instance : Agg Tryd.prog 118 false := ⟨_, Tryd.underlying118, rfl⟩
instance : Inf Tryd.prog 118 (.nilFunc) 1 8 := ⟨by kernel_rfl⟩
instance : Agg Tryd.prog 119 false := ⟨_, Tryd.underlying119, rfl⟩
instance : Inf Tryd.prog 119 (.nilFunc) 1 8 := ⟨by kernel_rfl⟩
instance : Agg Tryd.prog 121 false := ⟨_, Tryd.underlying121, rfl⟩
instance : Inf Tryd.prog 121 (.nilFunc) 1 8 := ⟨by kernel_rfl⟩
instance : Agg Tryd.prog 123 false := ⟨_, Tryd.underlying123, rfl⟩
instance : Inf Tryd.prog 123 (.nilFunc) 1 8 := ⟨by kernel_rfl⟩
instance : Agg Tryd.prog 124 false := ⟨_, Tryd.underlying124, rfl⟩
instance : Inf Tryd.prog 124 (.nilFunc) 1 8 := ⟨by kernel_rfl⟩
instance : Agg Tryd.prog 125 false := ⟨_, Tryd.underlying125, rfl⟩
instance : Inf Tryd.prog 125 (.nilFunc) 1 8 := ⟨by kernel_rfl⟩
instance : Agg Tryd.prog 126 false := ⟨_, Tryd.underlying126, rfl⟩
instance : Inf Tryd.prog 126 (.nilFunc) 1 8 := ⟨by kernel_rfl⟩
instance : Agg Tryd.prog 127 false := ⟨_, Tryd.underlying127, rfl⟩
instance : Inf Tryd.prog 127 (.nilFunc) 1 8 := ⟨by kernel_rfl⟩
instance : Agg Tryd.prog 128 false := ⟨_, Tryd.underlying128, rfl⟩
instance : Inf Tryd.prog 128 (.nilFunc) 1 8 := ⟨by kernel_rfl⟩
instance : Agg Tryd.prog 133 false := ⟨_, Tryd.underlying133, rfl⟩
instance : Inf Tryd.prog 133 (.nilFunc) 1 8 := ⟨by kernel_rfl⟩
instance : Agg Tryd.prog 140 false := ⟨_, Tryd.underlying140, rfl⟩
instance : Inf Tryd.prog 140 (.nilFunc) 1 8 := ⟨by kernel_rfl⟩
instance : Agg Tryd.prog 146 false := ⟨_, Tryd.underlying146, rfl⟩
instance : Inf Tryd.prog 146 (.nilFunc) 1 8 := ⟨by kernel_rfl⟩
instance : Agg Tryd.prog 149 false := ⟨_, Tryd.underlying149, rfl⟩
instance : Inf Tryd.prog 149 (.nilFunc) 1 8 := ⟨by kernel_rfl⟩
end Go.Proofs.YtffaoehhhdcjjaaDoor

/-
  General steps: what is skipped, what is written, loops over functions (out of several texts).
-/
set_option linter.unusedSimpArgs false
set_option linter.unusedVariables false
set_option linter.unnecessarySimpa false
namespace Go.Sv
open Go Go.RowKit
/-- all blocks of a list as they were -/
def pKeep (w1 : World) (F : List Nat) : Plot where
  foot := F.filter fun b => decide (b < w1.heap.size)
  ok w := ∀ b ∈ F, b < w1.heap.size → w.heap[b]? = w1.heap[b]?
  view := (none, [])
  loc _ _ h hb := fun b hF hlt => (hb b (List.mem_filter.2 ⟨hF, by simpa using hlt⟩)).trans (h b hF hlt)
  lt w h x hx := by
    obtain ⟨h1, h2⟩ := List.mem_filter.1 hx
    have h3 : x < w1.heap.size := by simpa using h2
    have h4 := h x h1 h3
    rw [Array.getElem?_eq_getElem h3] at h4
    exact (Array.getElem?_eq_some_iff.1 h4).1
  sg _ _ := .inl rfl
def feet (cs : List Plot) : List Nat := cs.flatMap Plot.foot
/-- the blocks that belong to no piece -/
def others (w0 w1 : World) (cs : List Plot) : List Nat := (List.range w1.heap.size).filter fun x => decide (w0.heap.size ≤ x) && !(decide (x ∈ feet cs))
section
variable {w0 w1 w2 w w' : World} {cs ds : List Plot} {B : Nat}
theorem Sep.keep (h : Sep w0 w1 cs) : Sep w0 w1 (pKeep w1 (others w0 w1 cs) :: cs) := by
  refine ⟨h.frm, ?_, ?_, ?_⟩
  · intro c hc
    rcases List.mem_cons.1 hc with rfl | hc
    · exact fun _ _ _ => rfl
    · exact h.ok c hc
  · intro c hc x hx
    rcases List.mem_cons.1 hc with rfl | hc
    · have := (List.mem_filter.1 (List.mem_filter.1 hx).1).2
      simp only [Bool.and_eq_true, decide_eq_true_eq] at this
      exact this.1
    · exact h.low c hc x hx
  · rw [List.pairwise_cons]
    refine ⟨fun c hc x hx hx' => ?_, h.apart⟩
    have := (List.mem_filter.1 (List.mem_filter.1 hx).1).2
    simp only [Bool.and_eq_true, Bool.not_eq_true', decide_eq_false_iff_not] at this
    exact this.2 (List.mem_flatMap.2 ⟨c, hc, hx'⟩)
theorem Sep.same (h : Sep w0 w1 cs) (hs : Same B w1 w2) (h0 : w0.heap.size ≤ B) (hB : ∀ x ∈ feet cs, x < B) : Sep w0 w2 cs :=
  ⟨⟨hs.os.trans h.frm.os, hs.tape.trans h.frm.tape, hs.output.trans h.frm.output, Nat.le_trans h0 hs.size, fun k hk => (hs.block k (Nat.lt_of_lt_of_le hk h0)).trans (h.frm.block k hk)⟩,
    fun c hc => c.loc w1 w2 (h.ok c hc) fun x hx => hs.block x (hB x (List.mem_flatMap.2 ⟨c, hc, hx⟩)), h.low, h.apart⟩
theorem Same.mono {B B' : Nat} (h : Same B w w') (hb : B' ≤ B) : Same B' w w' := ⟨h.os, h.tape, h.output, Nat.le_trans hb h.size, fun k hk => h.block k (Nat.lt_of_lt_of_le hk hb)⟩
end
def colls (Ds : List Nat) : List Deferred := Ds.map fun D => { target := .collected D, args := #[] }
end Go.Sv

/-
  Package link: Query, digits, Authority.
-/
set_option linter.unusedSimpArgs false
set_option linter.unusedVariables false
set_option linter.unnecessarySimpa false
namespace Go.Proofs.YtffaoehhhdcjjaaDoor
open Go Go.Sv Go.RowKit

def atw (l : List At) : Nat := (l.map At.wt).sum
/-! ## digits -/
def digN (s : List UInt8) : Nat := (s.takeWhile fun c => digitR c.toNat).length
theorem digN_le (s : List UInt8) : digN s ≤ s.length := (List.takeWhile_sublist _).length_le
theorem digN_at {s : List UInt8} {i : Nat} {c : UInt8} (h : s[i]? = some c) : digN (s.drop i) = if digitR c.toNat = true then 1 + digN (s.drop (i + 1)) else 0 := by
  obtain ⟨hi, rfl⟩ := List.getElem?_eq_some_iff.1 h
  rw [List.drop_eq_getElem_cons hi]
  unfold digN
  rw [List.takeWhile_cons]
  split
  · simp; omega
  · rfl
set_option maxHeartbeats 1000000 in
theorem digits_ok (s : List UInt8) (hb : s.length ≤ 1073741824) (w : World) : PureC Tryd.prog 54 #[str s] w (int (digN s)) := by
  refine enter (l := [str s]) Tryd.func54 rfl Tryd.ntmps54 (by kernel_rfl) rfl ?_
  refine sgo ?_
  refine wcloop (X := Nat) (fun i => [(0, str s), (3, int i)]) (fun i wr => i ≤ s.length ∧ digN s = i + digN (s.drop i) ∧ Frm w wr) (fun i => s.length - i) 0 ⟨rfl, rfl, trivial⟩ ⟨Nat.zero_le _, by simp, Frm.refl _⟩ ?_
  rintro i wr ρ ⟨hil, hd, hfr⟩
  refine sgo ?_
  refine wlcallgp (vals := [i32 (s[i]?.getD 0).toNat]) (fun _ => digit_ok _ _) (fun w1 hf1 => ?_)
  replace hfr := hfr.trans hf1
  rcases Nat.lt_or_ge i s.length with hlt | hge
  · obtain ⟨c, hx⟩ : ∃ c, s[i]? = some c := ⟨_, List.getElem?_eq_getElem hlt⟩
    have hg : s[i]?.getD 0 = c := by rw [hx]; rfl
    rw [digN_at hx] at hd
    simp only [hg]
    refine sgo ?_
    have h1 : decide ((i : Int) < s.length) = true := decide_eq_true (by omega)
    cases hdc : digitR c.toNat with
    | true =>
      rw [hdc, if_pos rfl] at hd
      refine wcyes ?_ (ht := by rw [h1]; rfl)
      refine sgo ?_
      exact ⟨i + 1, ⟨rfl, rfl, trivial⟩, ⟨by omega, by omega, hfr⟩, by omega⟩
    | false =>
      rw [hdc, if_neg Bool.false_ne_true] at hd
      refine wcno ?_ (ht := by rw [h1]; rfl)
      refine sgo ?_
      (first | refine fp1 (.inl rfl) rfl rfl ?_ | refine fp2 (.inl rfl) rfl rfl rfl ?_ | refine fp3 (.inl rfl) rfl rfl rfl rfl ?_ | refine fp0 (.inr rfl) rfl ?_ | refine fp0 (.inl rfl) rfl ?_ | refine fp1 (.inr rfl) rfl rfl ?_); refine ⟨?_, by (first | exact Frm.refl _ | assumption | exact Go.Sv.Sep.frm (by assumption) | (refine Frm.trans ?_ (by assumption); first | exact Frm.refl _ | assumption))⟩; (try simp only [realB, rv_true, Nat.reduceBEq, cond_true, cond_false, entG, real_lif, updGL])
      rw [hd]
      rfl
  · have hio : i = s.length := by omega
    subst hio
    have hd0 : digN (s.drop s.length) = 0 := by rw [List.drop_length]; rfl
    have h1 : decide ((s.length : Int) < s.length) = false := decide_eq_false (by omega)
    refine sgo ?_
    refine wcno ?_ (ht := by rw [h1]; rfl)
    refine sgo ?_
    (first | refine fp1 (.inl rfl) rfl rfl ?_ | refine fp2 (.inl rfl) rfl rfl rfl ?_ | refine fp3 (.inl rfl) rfl rfl rfl rfl ?_ | refine fp0 (.inr rfl) rfl ?_ | refine fp0 (.inl rfl) rfl ?_ | refine fp1 (.inr rfl) rfl rfl ?_); refine ⟨?_, by (first | exact Frm.refl _ | assumption | exact Go.Sv.Sep.frm (by assumption) | (refine Frm.trans ?_ (by assumption); first | exact Frm.refl _ | assumption))⟩; (try simp only [realB, rv_true, Nat.reduceBEq, cond_true, cond_false, entG, real_lif, updGL])
    rw [hd, hd0]
    rfl
/-! ## Authority -/
def userR (h : List UInt8) : List UInt8 × List UInt8 := if 0 ≤ lastR h 64 then (h.take (lastR h 64).toNat, h.drop ((lastR h 64).toNat + 1)) else ([], h)
def portR (r : List UInt8) : List UInt8 × List UInt8 := if 0 ≤ lastR r 58 ∧ (r.drop ((lastR r 58).toNat + 1)).all (fun c => digitR c.toNat) = true then (r.take (lastR r 58).toNat, r.drop ((lastR r 58).toNat + 1)) else (r, [])
def authV (h : List UInt8) : Value := .tuple #[str (userR h).1, str (portR (userR h).2).1, str (portR (userR h).2).2]
end Go.Proofs.YtffaoehhhdcjjaaDoor

/-
  Packages link, sieveref12: white, squeeze, the descriptors that are good.
-/
set_option linter.unusedSimpArgs false
set_option linter.unusedVariables false
set_option linter.unnecessarySimpa false
namespace Go.Proofs.YtffaoehhhdcjjaaDoor
open Go Go.Sv Go.RowKit

theorem white_ok (c : Nat) (w : World) : PureC Tryd.prog 59 #[byt c] w (.bool (whiteR c)) := by
  refine enter (l := [byt c]) Tryd.func59 rfl Tryd.ntmps59 (by kernel_rfl) rfl ?_
  refine sgo ?_
  (first | refine fp1 (.inl rfl) rfl rfl ?_ | refine fp2 (.inl rfl) rfl rfl rfl ?_ | refine fp3 (.inl rfl) rfl rfl rfl rfl ?_ | refine fp0 (.inr rfl) rfl ?_ | refine fp0 (.inl rfl) rfl ?_ | refine fp1 (.inr rfl) rfl rfl ?_); refine ⟨?_, by (first | exact Frm.refl _ | assumption | exact Go.Sv.Sep.frm (by assumption) | (refine Frm.trans ?_ (by assumption); first | exact Frm.refl _ | assumption))⟩; (try simp only [realB, rv_true, Nat.reduceBEq, cond_true, cond_false, entG, real_lif, updGL])
  refine congrArg Value.bool ?_
  unfold whiteR
  rw [Bool.eq_iff_iff]
  simp only [pkb_or, pkb_and, Bool.or_eq_true, Bool.and_eq_true, decide_eq_true_eq]
  omega
theorem gap_ok (c : Nat) (hc : c < 256) (w : World) : PureC Tryd.prog 66 #[byt c] w (.bool (whiteR c)) := by
  refine enter (l := [byt c]) Tryd.func66 rfl Tryd.ntmps66 (by kernel_rfl) rfl ?_
  refine sgo ?_
  refine wlcallgp (vals := [i32 c]) (fun _ => refBlank_ok c _) fun w1 hf1 => ?_
  refine sgo ?_
  (first | refine fp1 (.inl rfl) rfl rfl ?_ | refine fp2 (.inl rfl) rfl rfl rfl ?_ | refine fp3 (.inl rfl) rfl rfl rfl rfl ?_ | refine fp0 (.inr rfl) rfl ?_ | refine fp0 (.inl rfl) rfl ?_ | refine fp1 (.inr rfl) rfl rfl ?_); refine ⟨?_, by (first | exact Frm.refl _ | assumption | exact Go.Sv.Sep.frm (by assumption) | (refine Frm.trans ?_ (by assumption); first | exact Frm.refl _ | assumption))⟩; (try simp only [realB, rv_true, Nat.reduceBEq, cond_true, cond_false, entG, real_lif, updGL])
  refine congrArg Value.bool ?_
  unfold whiteR
  rw [Bool.eq_iff_iff]
  simp only [pkb_or, pkb_and, Bool.or_eq_true, Bool.and_eq_true, decide_eq_true_eq]
  omega
set_option maxRecDepth 100000 in
theorem white1_ok (r : Nat) (w : World) : PureC Tryd.prog 118 #[i32 r] w (.bool (whiteR r)) := by
  refine enter (l := [i32 r]) Tryd.func118 rfl Tryd.ntmps118 (by kernel_rfl) rfl ?_
  refine sgo ?_
  refine wlcallgp (vals := [byt r]) (fun _ => white_ok r _) fun w1 hf1 => ?_
  refine sgo ?_
  (first | refine fp1 (.inl rfl) rfl rfl ?_ | refine fp2 (.inl rfl) rfl rfl rfl ?_ | refine fp3 (.inl rfl) rfl rfl rfl rfl ?_ | refine fp0 (.inr rfl) rfl ?_ | refine fp0 (.inl rfl) rfl ?_ | refine fp1 (.inr rfl) rfl rfl ?_); refine ⟨?_, by (first | exact Frm.refl _ | assumption | exact Go.Sv.Sep.frm (by assumption) | (refine Frm.trans ?_ (by assumption); first | exact Frm.refl _ | assumption))⟩; (try simp only [realB, rv_true, Nat.reduceBEq, cond_true, cond_false, entG, real_lif, updGL])
  refine congrArg Value.bool ?_
  unfold whiteR
  rw [Bool.eq_iff_iff]
  simp only [pkb_or, pkb_and, Bool.or_eq_true, Bool.and_eq_true, decide_eq_true_eq]
  omega
set_option maxHeartbeats 1000000 in
theorem fieldsW_ok (s : List UInt8) (hb : s.length ≤ 16777216) (w : World) :
    CallsR Tryd.prog 117 #[str s, .func (.func 118) #[] #[]] w fun v w' => ∃ b, ∃ L : List (List UInt8), v = .slice (pb b) L.length L.length ∧ joinR [32] L = sqR s ∧ Sep w w' [pRow 1 (pb b) L.length L.length (strs L)] := by
  obtain ⟨L, h1, h2, h3⟩ := fields_sq s whiteR fun _ _ => rfl
  refine Calls.mono (Tryd.strings_FieldsFunc_grows 118 #[] run_callFunc whiteR ⟨s.toArray⟩ w (by rw [size_str]; omega) fun W x hx hB => ?_) ?_
  · refine Calls.mono (white1_ok x W) ?_
    rintro e w' ⟨v, rfl, rfl, hf⟩
    exact ⟨rfl, hf⟩
  · rintro e w' ⟨a, rfl, ha, hrow, hB⟩
    rw [h1, h2] at hrow
    refine ⟨_, rfl, a, L, ?_, h3, ?_⟩
    · rw [h2]
    · exact (Sep.start w).push (c := pRow 1 (pb a) L.length L.length (strs L)) hB (rowT_row hrow) (by simpa [pRow, rb, pb] using ha)
set_option maxHeartbeats 1000000 in
theorem squeeze_ok (s : List UInt8) (hb : s.length ≤ 16777216) (w : World) : PureC Tryd.prog 94 #[str s] w (str (sqR s)) := by
  have hsq := sqF_len s
  have hS := Sep.start w
  refine enter (l := [str s]) Tryd.func94 rfl Tryd.ntmps94 (by kernel_rfl) rfl ?_
  refine sgo ?_
  refine wlcall (fieldsW_ok s (by omega) _) ?_
  rintro _ w1 ⟨b, L, rfl, hL, hS1⟩
  replace hS := hS.seq hS1
  clear hS1
  replace hS : Sep w w1 [pRow 1 (pb b) L.length L.length (strs L)] := hS
  have hsl : (sqR s).length ≤ s.length := by unfold sqR; omega
  have hn : L.length ≤ 16777217 := by
    cases L with
    | nil => simp
    | cons x r =>
      have := join_len [32] x r
      rw [hL] at this
      simp only [List.length_cons, List.length_nil] at this ⊢
      omega
  refine sgo ?_
  refine wlpure (join_ok L [32] (pb b) L.length (Nat.le_refl _) hn (by decide) (by rw [hL]; omega) _ (hS.im 0 rfl)) fun w2 hf2 => ?_
  replace hS := hS.grow hf2
  rw [hL]
  refine sgo ?_
  (first | refine fp1 (.inl rfl) rfl rfl ?_ | refine fp2 (.inl rfl) rfl rfl rfl ?_ | refine fp3 (.inl rfl) rfl rfl rfl rfl ?_ | refine fp0 (.inr rfl) rfl ?_ | refine fp0 (.inl rfl) rfl ?_ | refine fp1 (.inr rfl) rfl rfl ?_); refine ⟨?_, by (first | exact Frm.refl _ | assumption | exact Go.Sv.Sep.frm (by assumption) | (refine Frm.trans ?_ (by assumption); first | exact Frm.refl _ | assumption))⟩; (try simp only [realB, rv_true, Nat.reduceBEq, cond_true, cond_false, entG, real_lif, updGL])
set_option maxHeartbeats 1000000 in
theorem squeezed_ok (s : List UInt8) (hb : s.length ≤ 16777216) (w : World) : PureC Tryd.prog 67 #[str s] w (str (sqR s)) := by
  refine enter (l := [str s]) Tryd.func67 rfl Tryd.ntmps67 (by kernel_rfl) rfl ?_
  refine sgo ?_
  refine wcloop (X := Nat) (fun i => [(0, str s), (3, str (sqF (s.take i)).1), (4, .bool (sqF (s.take i)).2), (7, int s.length), (8, int i)])
    (fun i wr => i ≤ s.length ∧ Frm w wr) (fun i => s.length - i) 0 ⟨rfl, rfl, rfl, rfl, rfl, trivial⟩ ⟨Nat.zero_le _, Frm.refl _⟩ ?_
  rintro i wr ρ ⟨hil, hfr⟩
  have hfl := sqF_len (s.take i)
  rw [List.length_take] at hfl
  refine sgo ?_
  (show WC _ _ _ _ _ _ _; first | refine WC_dec rfl (fun hc => ?_) (fun hc => ?_) | refine WC_cond rfl (fun hc => ?_) (fun hc => ?_))
  · have hlt : i < s.length := by omega
    clear hc
    obtain ⟨ch, hx⟩ : ∃ ch, s[i]? = some ch := ⟨_, List.getElem?_eq_getElem hlt⟩
    have hsn := sqF_snoc hx
    have hg : s[i]?.getD 0 = ch := by rw [hx]; rfl
    have htk : (s.drop i).take 1 = [ch] := by rw [drop_at hx]; rfl
    generalize sqF (s.take i) = x at *
    obtain ⟨t, b⟩ := x
    dsimp only at hfl ⊢
    unfold sqStep at hsn
    refine sgo ?_
    simp only [hg]
    refine wlpure (gap_ok ch.toNat ch.toNat_lt _) fun w3 hf3 => ?_
    replace hfr := hfr.trans hf3
    cases hw : whiteR ch.toNat with
    | true =>
      rw [hw, if_pos rfl] at hsn
      refine sgo ?_
      refine ⟨i + 1, ⟨rfl, ?_, ?_, rfl, rfl, trivial⟩, ⟨hlt, hfr⟩, by omega⟩
      · rw [hsn]; rfl
      · rw [hsn]
        show Value.bool _ = Value.bool _
        simp
    | false =>
      rw [hw, if_neg Bool.false_ne_true] at hsn
      dsimp only at hsn
      cases b with
      | true =>
        rw [if_pos rfl] at hsn hfl
        refine sgo ?_
        refine ⟨i + 1, ⟨rfl, ?_, ?_, rfl, rfl, trivial⟩, ⟨hlt, hfr⟩, by omega⟩
        · rw [hsn]
          show str _ = str _
          rw [show ((i : Int) + 1).toNat - (i : Int).toNat = 1 by omega, Int.toNat_natCast, htk]
        · rw [hsn]; rfl
      | false =>
        rw [if_neg Bool.false_ne_true, List.append_nil] at hsn
        refine sgo ?_
        refine ⟨i + 1, ⟨rfl, ?_, ?_, rfl, rfl, trivial⟩, ⟨hlt, hfr⟩, by omega⟩
        · rw [hsn]
          show str _ = str _
          rw [show ((i : Int) + 1).toNat - (i : Int).toNat = 1 by omega, Int.toNat_natCast, htk]
        · rw [hsn]; rfl
  · obtain rfl : i = s.length := by omega
    rw [List.take_length]
    refine sgo ?_
    (first | refine fp1 (.inl rfl) rfl rfl ?_ | refine fp2 (.inl rfl) rfl rfl rfl ?_ | refine fp3 (.inl rfl) rfl rfl rfl rfl ?_ | refine fp0 (.inr rfl) rfl ?_ | refine fp0 (.inl rfl) rfl ?_ | refine fp1 (.inr rfl) rfl rfl ?_); refine ⟨?_, by (first | exact Frm.refl _ | assumption | exact Go.Sv.Sep.frm (by assumption) | (refine Frm.trans ?_ (by assumption); first | exact Frm.refl _ | assumption))⟩; (try simp only [realB, rv_true, Nat.reduceBEq, cond_true, cond_false, entG, real_lif, updGL])
    rfl
end Go.Proofs.YtffaoehhhdcjjaaDoor

