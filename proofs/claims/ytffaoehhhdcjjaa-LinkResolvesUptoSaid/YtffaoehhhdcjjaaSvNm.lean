/-
  Packages names and sieveref04: classes of bytes, small letters. Blocks of bytes that []byte(s) made.
-/
import Derived.Test.YtffaoehhhdcjjaaSvQuote
set_option linter.unusedSimpArgs false
set_option linter.unusedVariables false
set_option linter.unnecessarySimpa false
namespace Go.Sv
open Go Go.RowKit
/-- a block that holds the bytes s and may be written there -/
def OwnB (w : World) (b : Nat) (s : List UInt8) : Prop := ∃ C ty lo hi, w.heap[b]? = some (.cells C ty (lo, hi)) ∧ C.toList.take s.length = bs s ∧ s.length ≤ lo
section
variable {P : Program} {w w' : World} {b i : Nat} {s : List UInt8}
theorem OwnB.lt (h : OwnB w b s) : b < w.heap.size := by
  obtain ⟨C, ty, lo, hi, h, _⟩ := h
  exact (Array.getElem?_eq_some_iff.1 h).1
theorem OwnB.le {M : List Nat} (h : OwnB w b s) (hl : Le M w w') (hb : b ∉ M) : OwnB w' b s := by
  have := h.lt
  obtain ⟨C, ty, lo, hi, h, h2⟩ := h
  exact ⟨C, ty, lo, hi, by rw [hl.block b this hb]; exact h, h2⟩
theorem OwnB.frm (h : OwnB w b s) (hl : Frm w w') : OwnB w' b s := h.le (M := []) hl.le (by simp)
theorem OwnB.sg (h : OwnB w b s) : Sg w (pb b) (bs s) := by
  obtain ⟨C, ty, lo, hi, h, h2, _⟩ := h
  refine .inr ⟨_, rfl, fun i hi' => ?_⟩
  have e : (⟨b, 0, none⟩ : Addr).add i = ⟨b, i, none⟩ := by unfold Addr.add; split <;> simp_all
  rw [e, cell_of_row w b i C ty _ h, ← h2]
  rw [List.getElem?_take_of_lt (by simpa using hi')]
  simp
theorem OwnB.im {M : List Nat} (h : OwnB w b s) (hb : b ∉ M) : Im M w (pb b) (bs s) := by
  rcases h.sg with hh | ⟨a, ha, h1⟩
  · exact .inl hh
  · obtain rfl := Option.some.inj ha
    exact .inr ⟨_, rfl, h1, h.lt, hb⟩
theorem bs_set (s : List UInt8) (i : Nat) (x : UInt8) : bs (s.set i x) = (bs s).set i (byt x.toNat) := by simp [bs, List.map_set]
end
section
variable {P : Program} {n : Nat} {ds : Ctx} {ops : Array Oper} {Q : Exit → Ctx → Env → World → Prop} {rest : List Oper} {σ : GE} {w : World} {d : Nat} {ty t t' e : TypeId} {pos : String} {af : Array Edge} {x y : Operand} {zv : Value} {size bytes : Nat} {b i : Nat} {s : List UInt8}
/-- []byte(s), to be written -/
theorem wls2bo [hu : Und P t .string] [hu' : Und P t' (.slice e)] [he : Und P e (.int .u8)] (hx : evl (real σ) x = str s) (hs : s.length ≤ 9223372036854775807)
    (h : ∀ b c w', w.heap.size ≤ b → s.length ≤ c → c ≤ 9223372036854775807 → OwnB w' b s → Frm w w' → WL P n ds ops Q rest (real (updG σ d ⟨.slice (pb b) s.length c, true⟩)) w') :
    WL P n ds ops Q (⟨some d, .convert t t' x, ty, pos, af, none⟩ :: rest) (real σ) w := by
  let c := grownCap w s.length 0 e
  let C : Array Value := (s.toArray.map fun b => Value.int .u8 b.toNat) ++ Array.replicate (c - s.length) (.int .u8 0)
  have hge : s.length ≤ c := grownCap_ge w s.length 0 e
  have hcm : c ≤ maxLen := grownCap_le_maxLen w s.length 0 e (by unfold maxLen; omega)
  have hsz : C.size = c := by simp [C]; omega
  have hheap : (w.drew.alloc (.cells C e)).heap[w.heap.size]? = some (.cells C e) := heap_alloc_new w.drew _
  let w' := (w.drew.alloc (.cells C e)).freeze ⟨w.heap.size, C.size, none⟩ 1
  have hw' : w'.heap[w.heap.size]? = some (.cells C e (C.size, C.size + 1)) := by
    simp only [w', World.freeze, Nat.one_ne_zero, if_false, Array.getElem?_modify, if_true]
    rw [hheap]; simp
  have hother : ∀ k, k < w.heap.size → w'.heap[k]? = w.heap[k]? := by
    intro k hk
    simp only [w', World.freeze, Nat.one_ne_zero, if_false, Array.getElem?_modify]
    rw [if_neg (by omega)]
    exact Below.heap_alloc w.drew _ k hk
  refine wl (h w.heap.size c w' (Nat.le_refl _) hge (by unfold maxLen at hcm; omega) ?_ ?_) (Y.val ?_)
  · refine ⟨C, e, _, _, hw', ?_, by omega⟩
    have hl : s.length = (s.map fun b => Value.int .u8 b.toNat).length := by simp
    simp only [C, Array.toList_append, Array.toList_map]
    rw [hl, List.take_left' rfl]
    rfl
  · exact ⟨rfl, rfl, rfl, by simp [w', World.freeze], hother⟩
  · have e1 : (ByteArray.mk s.toArray).data = s.toArray := rfl
    simp only [execOp, hx, convert, underlying, Sem.run_bind, run_program, Result.andThen_ok, hu.ok, hu'.ok, he.ok, Sem.run_pure, Conv.stringToBytes, run_choose, Question.forced, size_str, newRow, run_newObj, markStringish, run_shape]
    have hshape : (w.drew.alloc (.cells C e)).shape? w.heap.size = some (e, C.size) := by simp only [World.shape?, hheap]
    have hr : (w.drew.heap.size) = w.heap.size := rfl
    simp only [Bool.false_eq_true, if_false, Result.andThen_ok, World.alloc_eq, e1]
    change (((Sem.run P (match (w.drew.alloc (.cells C e)).shape? w.heap.size with | some (_, n) => freeze { block := w.heap.size, off := n } 1 | _ => pure ()) (w.drew.alloc (.cells C e))).andThen _).andThen _) = _
    rw [hshape]
    simp only [run_freeze, Result.andThen_ok, Sem.run_pure]
    rfl
/-- a byte stored there -/
theorem wlstoreb [hi : Inf P t zv 1 bytes] {v : Nat} (hx : evl (real σ) x = ptrAt (pb b) i) (hy : evl (real σ) y = byt v) (ho : OwnB w b s) (hk : i < s.length) (hv : v < 256)
    (h : ∀ w', OwnB w' b (s.set i (UInt8.ofNat v)) → Le [b] w w' → WL P n ds ops Q rest (real σ) w') :
    WL P n ds ops Q (⟨none, .store t x y, ty, pos, af, none⟩ :: rest) (real σ) w := by
  obtain ⟨C, tt, lo, hi', ho, h2, h3⟩ := ho
  have e : (⟨b, 0, none⟩ : Addr).add i = ⟨b, i, none⟩ := by unfold Addr.add; split <;> simp_all
  have hlen : s.length ≤ C.size := by
    have := congrArg List.length h2
    simp [bs] at this; omega
  have hcell : w.cell? ⟨b, i, none⟩ = some C[i] := by simp [World.cell?, ho, show i < C.size from by omega]
  have hfro : w.frozen? ⟨b, i, none⟩ = false := by
    simp only [World.frozen?, ho, Bool.and_eq_false_iff, decide_eq_false_iff_not]
    left; omega
  have hst : (store (⟨b, i, none⟩ : Addr) (byt v)).run P w = .ok () (w.setRow b (C.setIfInBounds i (byt v))) := by
    rw [run_store P w _ (byt v) _ rfl, hcell]
    simp [hfro, setCell_eq_setRow w b i C tt _ (byt v) ho]
  refine wl0 (h (w.setRow b (C.setIfInBounds i (byt v))) ⟨_, tt, lo, hi', setRow_heap w b C _ tt _ ho, ?_, by simpa using h3⟩ (le_setRow w b _)) (Y.skip ?_)
  · rw [Array.toList_setIfInBounds, List.length_set, List.take_set, h2, bs_set]
    congr 2
    rw [UInt8.toNat_ofNat_of_lt' (by simpa using hv)]
  · simp only [execOp, hx, hy, Instr.storeAt, show ptrAt (pb b) i = .pointer (some ⟨b, i, none⟩) from by simp [e], Instr.sureAddr, Sem.run_bind, Sem.run_pure, Result.andThen_ok, storeVar, run_sizeOf (P := P) (t := t)]
    have e0 : (⟨b, i, none⟩ : Addr).add 0 = ⟨b, i, none⟩ := by unfold Addr.add; simp
    simp [storeCells, Value.cells, Sem.run_bind, e0, hst]
end
end Go.Sv
namespace Go.Proofs.Ytffaoehhhdcjjaa
open Go Go.Sv Go.RowKit

def upperR (c : Nat) : Bool := decide (65 ≤ c) && decide (c ≤ 90)
def letterR (c : Nat) : Bool := upperR c || (decide (97 ≤ c) && decide (c ≤ 122))
def digitR (c : Nat) : Bool := decide (48 ≤ c) && decide (c ≤ 57)
def valueR (c : Nat) : Int := if digitR c then (c : Int) - 48 else if 97 ≤ c ∧ c ≤ 102 then (c : Int) - 97 + 10 else if 65 ≤ c ∧ c ≤ 70 then (c : Int) - 65 + 10 else -1
def hexR (c : Nat) : Bool := decide (0 ≤ valueR c)
def lowN (c : Nat) : Nat := if upperR c then c + 32 else c
def lowR (l : List UInt8) : List UInt8 := l.map fun c => UInt8.ofNat (lowN c.toNat)

theorem upper_ok (c : Nat) (w : World) : PureC Try.prog 68 #[i32 c] w (.bool (upperR c)) := by
  refine enter (l := [i32 c]) Try.func68 rfl Try.ntmps68 (by kernel_rfl) rfl ?_
  refine sgo ?_
  (first | refine fp1 (.inl rfl) rfl rfl ?_ | refine fp2 (.inl rfl) rfl rfl rfl ?_ | refine fp3 (.inl rfl) rfl rfl rfl rfl ?_ | refine fp0 (.inr rfl) rfl ?_ | refine fp0 (.inl rfl) rfl ?_ | refine fp1 (.inr rfl) rfl rfl ?_); refine ⟨?_, by (first | exact Frm.refl _ | assumption | (refine Frm.trans ?_ (by assumption); first | exact Frm.refl _ | assumption))⟩; (try simp only [realB, rv_true, Nat.reduceBEq, cond_true, cond_false, entG, real_lif, updGL])
  refine congrArg Value.bool ?_
  unfold upperR
  rw [Bool.eq_iff_iff]
  simp only [pkb_or, pkb_and, Bool.or_eq_true, Bool.and_eq_true, decide_eq_true_eq]
  omega









theorem digit_ok (c : Nat) (w : World) : PureC Try.prog 55 #[i32 c] w (.bool (digitR c)) := by
  refine enter (l := [i32 c]) Try.func55 rfl Try.ntmps55 (by kernel_rfl) rfl ?_
  refine sgo ?_
  (first | refine fp1 (.inl rfl) rfl rfl ?_ | refine fp2 (.inl rfl) rfl rfl rfl ?_ | refine fp3 (.inl rfl) rfl rfl rfl rfl ?_ | refine fp0 (.inr rfl) rfl ?_ | refine fp0 (.inl rfl) rfl ?_ | refine fp1 (.inr rfl) rfl rfl ?_); refine ⟨?_, by (first | exact Frm.refl _ | assumption | (refine Frm.trans ?_ (by assumption); first | exact Frm.refl _ | assumption))⟩; (try simp only [realB, rv_true, Nat.reduceBEq, cond_true, cond_false, entG, real_lif, updGL])
  refine congrArg Value.bool ?_
  unfold digitR
  rw [Bool.eq_iff_iff]
  simp only [pkb_or, pkb_and, Bool.or_eq_true, Bool.and_eq_true, decide_eq_true_eq]
  omega
theorem digit4_ok (c : Nat) (w : World) : PureC Try.prog 56 #[i32 c] w (.bool (digitR c)) := by
  refine enter (l := [i32 c]) Try.func56 rfl Try.ntmps56 (by kernel_rfl) rfl ?_
  refine sgo ?_
  (first | refine fp1 (.inl rfl) rfl rfl ?_ | refine fp2 (.inl rfl) rfl rfl rfl ?_ | refine fp3 (.inl rfl) rfl rfl rfl rfl ?_ | refine fp0 (.inr rfl) rfl ?_ | refine fp0 (.inl rfl) rfl ?_ | refine fp1 (.inr rfl) rfl rfl ?_); refine ⟨?_, by (first | exact Frm.refl _ | assumption | (refine Frm.trans ?_ (by assumption); first | exact Frm.refl _ | assumption))⟩; (try simp only [realB, rv_true, Nat.reduceBEq, cond_true, cond_false, entG, real_lif, updGL])
  refine congrArg Value.bool ?_
  unfold digitR
  rw [Bool.eq_iff_iff]
  simp only [pkb_or, pkb_and, Bool.or_eq_true, Bool.and_eq_true, decide_eq_true_eq]
  omega
theorem letter_ok (c : Nat) (w : World) : PureC Try.prog 61 #[i32 c] w (.bool (letterR c)) := by
  refine enter (l := [i32 c]) Try.func61 rfl Try.ntmps61 (by kernel_rfl) rfl ?_
  refine sgo ?_
  refine wlpure (upper_ok c _) fun w1 hf1 => ?_
  refine sgo ?_
  (first | refine fp1 (.inl rfl) rfl rfl ?_ | refine fp2 (.inl rfl) rfl rfl rfl ?_ | refine fp3 (.inl rfl) rfl rfl rfl rfl ?_ | refine fp0 (.inr rfl) rfl ?_ | refine fp0 (.inl rfl) rfl ?_ | refine fp1 (.inr rfl) rfl rfl ?_); refine ⟨?_, by (first | exact Frm.refl _ | assumption | (refine Frm.trans ?_ (by assumption); first | exact Frm.refl _ | assumption))⟩; (try simp only [realB, rv_true, Nat.reduceBEq, cond_true, cond_false, entG, real_lif, updGL])
  refine congrArg Value.bool ?_
  unfold letterR upperR
  rw [Bool.eq_iff_iff]
  simp only [pkb_or, pkb_and, Bool.or_eq_true, Bool.and_eq_true, decide_eq_true_eq]
  omega











theorem value_ok (c : Nat) (hn : c < 256) (w : World) : PureC Try.prog 30 #[i32 c] w (int (valueR c)) := by
  refine enter (l := [i32 c]) Try.func30 rfl Try.ntmps30 (by kernel_rfl) rfl ?_
  refine sgo ?_
  refine wlpure (digit_ok c _) fun w1 hf1 => ?_
  refine sgo ?_
  (show WC _ _ _ _ _ _ _; first | refine WC_dec rfl (fun hc => ?_) (fun hc => ?_) | refine WC_cond rfl (fun hc => ?_) (fun hc => ?_))
  · refine sgo ?_
    (first | refine fp1 (.inl rfl) rfl rfl ?_ | refine fp2 (.inl rfl) rfl rfl rfl ?_ | refine fp3 (.inl rfl) rfl rfl rfl rfl ?_ | refine fp0 (.inr rfl) rfl ?_ | refine fp0 (.inl rfl) rfl ?_ | refine fp1 (.inr rfl) rfl rfl ?_); refine ⟨?_, by (first | exact Frm.refl _ | assumption | (refine Frm.trans ?_ (by assumption); first | exact Frm.refl _ | assumption))⟩; (try simp only [realB, rv_true, Nat.reduceBEq, cond_true, cond_false, entG, real_lif, updGL])
    refine congrArg int ?_
    simp [valueR, hc]
  · have hd := hc
    refine sgo ?_
    (show WC _ _ _ _ _ _ _; first | refine WC_dec rfl (fun hc => ?_) (fun hc => ?_) | refine WC_cond rfl (fun hc => ?_) (fun hc => ?_))
    · refine sgo ?_
      (first | refine fp1 (.inl rfl) rfl rfl ?_ | refine fp2 (.inl rfl) rfl rfl rfl ?_ | refine fp3 (.inl rfl) rfl rfl rfl rfl ?_ | refine fp0 (.inr rfl) rfl ?_ | refine fp0 (.inl rfl) rfl ?_ | refine fp1 (.inr rfl) rfl rfl ?_); refine ⟨?_, by (first | exact Frm.refl _ | assumption | (refine Frm.trans ?_ (by assumption); first | exact Frm.refl _ | assumption))⟩; (try simp only [realB, rv_true, Nat.reduceBEq, cond_true, cond_false, entG, real_lif, updGL])
      refine congrArg int ?_
      simp only [pkb_and, Bool.and_eq_true, decide_eq_true_eq] at hc
      have h1 : 97 ≤ c ∧ c ≤ 102 := by omega
      simp [valueR, hd, h1]
    · have hl := hc
      simp only [pkb_and, Bool.and_eq_false_iff, decide_eq_false_iff_not] at hl
      have h1 : ¬ (97 ≤ c ∧ c ≤ 102) := by omega
      refine sgo ?_
      (show WC _ _ _ _ _ _ _; first | refine WC_dec rfl (fun hc => ?_) (fun hc => ?_) | refine WC_cond rfl (fun hc => ?_) (fun hc => ?_))
      · refine sgo ?_
        (first | refine fp1 (.inl rfl) rfl rfl ?_ | refine fp2 (.inl rfl) rfl rfl rfl ?_ | refine fp3 (.inl rfl) rfl rfl rfl rfl ?_ | refine fp0 (.inr rfl) rfl ?_ | refine fp0 (.inl rfl) rfl ?_ | refine fp1 (.inr rfl) rfl rfl ?_); refine ⟨?_, by (first | exact Frm.refl _ | assumption | (refine Frm.trans ?_ (by assumption); first | exact Frm.refl _ | assumption))⟩; (try simp only [realB, rv_true, Nat.reduceBEq, cond_true, cond_false, entG, real_lif, updGL])
        refine congrArg int ?_
        simp only [pkb_and, Bool.and_eq_true, decide_eq_true_eq] at hc
        have h2 : 65 ≤ c ∧ c ≤ 70 := by omega
        simp [valueR, hd, h1, h2]
      · have hm := hc
        simp only [pkb_and, Bool.and_eq_false_iff, decide_eq_false_iff_not] at hm
        have h2 : ¬ (65 ≤ c ∧ c ≤ 70) := by omega
        refine sgo ?_
        (first | refine fp1 (.inl rfl) rfl rfl ?_ | refine fp2 (.inl rfl) rfl rfl rfl ?_ | refine fp3 (.inl rfl) rfl rfl rfl rfl ?_ | refine fp0 (.inr rfl) rfl ?_ | refine fp0 (.inl rfl) rfl ?_ | refine fp1 (.inr rfl) rfl rfl ?_); refine ⟨?_, by (first | exact Frm.refl _ | assumption | (refine Frm.trans ?_ (by assumption); first | exact Frm.refl _ | assumption))⟩; (try simp only [realB, rv_true, Nat.reduceBEq, cond_true, cond_false, entG, real_lif, updGL])
        refine congrArg int ?_
        simp only [valueR, hd, h1, h2, if_false, Bool.false_eq_true]
theorem hex_ok (c : Nat) (hn : c < 256) (w : World) : PureC Try.prog 52 #[i32 c] w (.bool (hexR c)) := by
  refine enter (l := [i32 c]) Try.func52 rfl Try.ntmps52 (by kernel_rfl) rfl ?_
  refine sgo ?_
  refine wlpure (value_ok c hn _) fun w1 hf1 => ?_
  refine sgo ?_
  (first | refine fp1 (.inl rfl) rfl rfl ?_ | refine fp2 (.inl rfl) rfl rfl rfl ?_ | refine fp3 (.inl rfl) rfl rfl rfl rfl ?_ | refine fp0 (.inr rfl) rfl ?_ | refine fp0 (.inl rfl) rfl ?_ | refine fp1 (.inr rfl) rfl rfl ?_); refine ⟨?_, by (first | exact Frm.refl _ | assumption | (refine Frm.trans ?_ (by assumption); first | exact Frm.refl _ | assumption))⟩; (try simp only [realB, rv_true, Nat.reduceBEq, cond_true, cond_false, entG, real_lif, updGL])
  rfl
theorem value4_ok (c : Nat) (hn : c < 256) (w : World) : PureC Try.prog 31 #[i32 c] w (int (valueR c)) := by
  refine enter (l := [i32 c]) Try.func31 rfl Try.ntmps31 (by kernel_rfl) rfl ?_
  refine sgo ?_
  refine wlpure (digit4_ok c _) fun w1 hf1 => ?_
  refine sgo ?_
  (show WC _ _ _ _ _ _ _; first | refine WC_dec rfl (fun hc => ?_) (fun hc => ?_) | refine WC_cond rfl (fun hc => ?_) (fun hc => ?_))
  · refine sgo ?_
    (first | refine fp1 (.inl rfl) rfl rfl ?_ | refine fp2 (.inl rfl) rfl rfl rfl ?_ | refine fp3 (.inl rfl) rfl rfl rfl rfl ?_ | refine fp0 (.inr rfl) rfl ?_ | refine fp0 (.inl rfl) rfl ?_ | refine fp1 (.inr rfl) rfl rfl ?_); refine ⟨?_, by (first | exact Frm.refl _ | assumption | (refine Frm.trans ?_ (by assumption); first | exact Frm.refl _ | assumption))⟩; (try simp only [realB, rv_true, Nat.reduceBEq, cond_true, cond_false, entG, real_lif, updGL])
    refine congrArg int ?_
    simp [valueR, hc]
  · have hd := hc
    refine sgo ?_
    (show WC _ _ _ _ _ _ _; first | refine WC_dec rfl (fun hc => ?_) (fun hc => ?_) | refine WC_cond rfl (fun hc => ?_) (fun hc => ?_))
    · refine sgo ?_
      (first | refine fp1 (.inl rfl) rfl rfl ?_ | refine fp2 (.inl rfl) rfl rfl rfl ?_ | refine fp3 (.inl rfl) rfl rfl rfl rfl ?_ | refine fp0 (.inr rfl) rfl ?_ | refine fp0 (.inl rfl) rfl ?_ | refine fp1 (.inr rfl) rfl rfl ?_); refine ⟨?_, by (first | exact Frm.refl _ | assumption | (refine Frm.trans ?_ (by assumption); first | exact Frm.refl _ | assumption))⟩; (try simp only [realB, rv_true, Nat.reduceBEq, cond_true, cond_false, entG, real_lif, updGL])
      refine congrArg int ?_
      simp only [pkb_and, Bool.and_eq_true, decide_eq_true_eq] at hc
      have h1 : 97 ≤ c ∧ c ≤ 102 := by omega
      simp [valueR, hd, h1]
    · have hl := hc
      simp only [pkb_and, Bool.and_eq_false_iff, decide_eq_false_iff_not] at hl
      have h1 : ¬ (97 ≤ c ∧ c ≤ 102) := by omega
      refine sgo ?_
      (show WC _ _ _ _ _ _ _; first | refine WC_dec rfl (fun hc => ?_) (fun hc => ?_) | refine WC_cond rfl (fun hc => ?_) (fun hc => ?_))
      · refine sgo ?_
        (first | refine fp1 (.inl rfl) rfl rfl ?_ | refine fp2 (.inl rfl) rfl rfl rfl ?_ | refine fp3 (.inl rfl) rfl rfl rfl rfl ?_ | refine fp0 (.inr rfl) rfl ?_ | refine fp0 (.inl rfl) rfl ?_ | refine fp1 (.inr rfl) rfl rfl ?_); refine ⟨?_, by (first | exact Frm.refl _ | assumption | (refine Frm.trans ?_ (by assumption); first | exact Frm.refl _ | assumption))⟩; (try simp only [realB, rv_true, Nat.reduceBEq, cond_true, cond_false, entG, real_lif, updGL])
        refine congrArg int ?_
        simp only [pkb_and, Bool.and_eq_true, decide_eq_true_eq] at hc
        have h2 : 65 ≤ c ∧ c ≤ 70 := by omega
        simp [valueR, hd, h1, h2]
      · have hm := hc
        simp only [pkb_and, Bool.and_eq_false_iff, decide_eq_false_iff_not] at hm
        have h2 : ¬ (65 ≤ c ∧ c ≤ 70) := by omega
        refine sgo ?_
        (first | refine fp1 (.inl rfl) rfl rfl ?_ | refine fp2 (.inl rfl) rfl rfl rfl ?_ | refine fp3 (.inl rfl) rfl rfl rfl rfl ?_ | refine fp0 (.inr rfl) rfl ?_ | refine fp0 (.inl rfl) rfl ?_ | refine fp1 (.inr rfl) rfl rfl ?_); refine ⟨?_, by (first | exact Frm.refl _ | assumption | (refine Frm.trans ?_ (by assumption); first | exact Frm.refl _ | assumption))⟩; (try simp only [realB, rv_true, Nat.reduceBEq, cond_true, cond_false, entG, real_lif, updGL])
        refine congrArg int ?_
        simp only [valueR, hd, h1, h2, if_false, Bool.false_eq_true]
theorem hex4_ok (c : Nat) (hn : c < 256) (w : World) : PureC Try.prog 54 #[i32 c] w (.bool (hexR c)) := by
  refine enter (l := [i32 c]) Try.func54 rfl Try.ntmps54 (by kernel_rfl) rfl ?_
  refine sgo ?_
  refine wlpure (value4_ok c hn _) fun w1 hf1 => ?_
  refine sgo ?_
  (first | refine fp1 (.inl rfl) rfl rfl ?_ | refine fp2 (.inl rfl) rfl rfl rfl ?_ | refine fp3 (.inl rfl) rfl rfl rfl rfl ?_ | refine fp0 (.inr rfl) rfl ?_ | refine fp0 (.inl rfl) rfl ?_ | refine fp1 (.inr rfl) rfl rfl ?_); refine ⟨?_, by (first | exact Frm.refl _ | assumption | (refine Frm.trans ?_ (by assumption); first | exact Frm.refl _ | assumption))⟩; (try simp only [realB, rv_true, Nat.reduceBEq, cond_true, cond_false, entG, real_lif, updGL])
  rfl

theorem at_lt (l : List UInt8) (i : Nat) : at0 l i < 256 := by simp only [at0]; exact UInt8.toNat_lt _
theorem lowR_len (l : List UInt8) : (lowR l).length = l.length := by simp [lowR]
/-- the first i bytes are small -/
def lowTo (l : List UInt8) (i : Nat) : List UInt8 := lowR (l.take i) ++ l.drop i
theorem lowTo_len (l : List UInt8) (i : Nat) : (lowTo l i).length = l.length := by simp [lowTo, lowR]; omega
theorem lowTo_zero (l : List UInt8) : lowTo l 0 = l := by simp [lowTo, lowR]
theorem lowTo_all (l : List UInt8) : lowTo l l.length = lowR l := by simp [lowTo]
theorem lowTo_at (l : List UInt8) (i : Nat) : at0 (lowTo l i) i = at0 l i := by
  simp only [at0, lowTo]
  rw [List.getElem?_append]
  by_cases h : i < l.length
  · simp [lowR, Nat.min_eq_left (Nat.le_of_lt h)]
  · rw [if_neg (by simp [lowR]; omega), List.getElem?_eq_none (by simp; omega), List.getElem?_eq_none (by omega)]
theorem lowTo_succ (l : List UInt8) (i : Nat) (h : i < l.length) : lowTo l (i + 1) = (lowTo l i).set i (UInt8.ofNat (lowN (at0 l i))) := by
  have e : at0 l i = l[i].toNat := by simp [at0, h]
  simp only [lowTo, e]
  rw [List.set_append_right _ _ (by simp [lowR]; omega)]
  simp only [lowR, List.length_map, List.length_take, Nat.min_eq_left (Nat.le_of_lt h), Nat.sub_self]
  rw [List.drop_eq_getElem_cons h, List.set_cons_zero, List.take_succ_eq_append_getElem h, List.map_append]
  simp only [List.map_cons, List.map_nil, List.append_assoc, List.cons_append, List.nil_append]
theorem lowTo_keep (l : List UInt8) (i : Nat) (h : i < l.length) (hu : upperR (at0 l i) = false) : lowTo l (i + 1) = lowTo l i := by
  rw [lowTo_succ l i h, lowN, hu, ← lowTo_at l i]
  have hl : i < (lowTo l i).length := by rw [lowTo_len]; exact h
  have : UInt8.ofNat (at0 (lowTo l i) i) = (lowTo l i)[i] := by simp [at0, hl]
  simp only [Bool.false_eq_true, if_false]
  rw [this, List.set_getElem_self]
set_option maxHeartbeats 1000000 in
theorem lower_ok (l : List UInt8) (hb : l.length ≤ 4611686018427387904) (w : World) : PureC Try.prog 49 #[str l] w (str (lowR l)) := by
  refine enter (l := [str l]) Try.func49 rfl Try.ntmps49 (by kernel_rfl) rfl ?_
  refine sgo ?_
  refine wls2bo rfl (by omega) fun b c w1 hb1 hc1 hc2 ho hf1 => ?_
  refine sgo ?_
  refine wcloop (X := Nat) (fun x => [(3, .slice (pb b) l.length c), (8, .slice (pb b) l.length c), (9, int l.length), (10, int x)])
    (fun x wr => x ≤ l.length ∧ OwnB wr b (lowTo l x) ∧ Frm w wr) (fun x => l.length - x) 0 ⟨rfl, rfl, rfl, rfl, trivial⟩ ⟨by omega, by rw [lowTo_zero]; exact ho, hf1⟩ ?_
  rintro i wr ρ ⟨hi, ho, hfr⟩
  refine sgo ?_
  (show WC _ _ _ _ _ _ _; first | refine WC_dec rfl (fun hc => ?_) (fun hc => ?_) | refine WC_cond rfl (fun hc => ?_) (fun hc => ?_))
  · have hil : i < l.length := by omega
    have hll := lowTo_len l i
    have hld : (bs (lowTo l i))[i]? = some (byt (at0 l i)) := by
      rw [bs_get (by omega)]
      exact congrArg (fun n : Nat => some (byt n)) (lowTo_at l i)
    have h256 := at_lt l i
    refine sgo ?_
    refine wl ?_ (y_load (i := i) rfl ho.sg hld)
    have hup := lowTo_succ l i hil
    have hkp := lowTo_keep l i hil
    generalize at0 l i = a at *
    refine sgo ?_
    (show WC _ _ _ _ _ _ _; first | refine WC_dec rfl (fun hc => ?_) (fun hc => ?_) | refine WC_cond rfl (fun hc => ?_) (fun hc => ?_))
    · simp only [pkb_and, Bool.and_eq_true, decide_eq_true_eq] at hc
      have h65 : 65 ≤ a ∧ a ≤ 90 := by omega
      rw [lowN, show upperR a = true from by simp [upperR, h65], if_pos rfl] at hup
      refine sgo ?_
      have e : ((a : Int) + 97 - 65) = ((a + 32 : Nat) : Int) := by omega
      refine wlstoreb (v := a + 32) rfl (congrArg byt e) ho (by omega) (by omega) fun w2 ho2 hl2 => ?_
      have hfr2 := hfr.step hl2 (by intro x hx; simp only [List.mem_singleton] at hx; subst hx; exact hb1)
      refine sgo ?_
      exact ⟨i + 1, ⟨rfl, rfl, rfl, rfl, trivial⟩, ⟨by omega, by rw [hup]; exact ho2, hfr2⟩, by omega⟩
    · simp only [pkb_and, Bool.and_eq_false_iff, decide_eq_false_iff_not] at hc
      have h65 : ¬ (65 ≤ a ∧ a ≤ 90) := by omega
      replace hkp := hkp (by simp only [upperR, ← Bool.decide_and]; exact decide_eq_false h65)
      refine sgo ?_
      exact ⟨i + 1, ⟨rfl, rfl, rfl, rfl, trivial⟩, ⟨by omega, by rw [hkp]; exact ho, hfr⟩, by omega⟩
  · obtain rfl : i = l.length := by omega
    have hll := lowTo_len l l.length
    rw [lowTo_all] at ho hll
    refine sgo ?_
    refine wl ?_ (y_b2s (s := lowR l) (by rw [hll]; rfl) ho.sg)
    refine sgo ?_
    (first | refine fp1 (.inl rfl) rfl rfl ?_ | refine fp2 (.inl rfl) rfl rfl rfl ?_ | refine fp3 (.inl rfl) rfl rfl rfl rfl ?_ | refine fp0 (.inr rfl) rfl ?_ | refine fp0 (.inl rfl) rfl ?_ | refine fp1 (.inr rfl) rfl rfl ?_); refine ⟨?_, by (first | exact Frm.refl _ | assumption | (refine Frm.trans ?_ (by assumption); first | exact Frm.refl _ | assumption))⟩; (try simp only [realB, rv_true, Nat.reduceBEq, cond_true, cond_false, entG, real_lif, updGL])
end Go.Proofs.Ytffaoehhhdcjjaa
