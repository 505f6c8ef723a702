/-
  Our texts SvTokH, SvEvA, SvNm, SvLkA, SvLkB, SvLkC, SvLkD, SvLn, SvIn, SvVaA, SvVaB, SvFv, SvInL, SvInN, SvEvC, SvEvN, SvJn, SvVaC, SvTabF, SvVaD, SvVaF, SvCut, SvVaH, SvLkE, SvLkF, SvLkG, SvLkQ, SvLkR, SvLkS, SvLkT, SvLkU, SvVbA, SvVbB, SvVbC, joined.
-/
import Derived.Test.YtjpnhaaneaikbaaDoorMg3
import Derived.Laws.MakeOwn
import Derived.Lib.LaidTab
import Derived.Lib.SplitLaws
/-
  Lists of tokens in memory; package token: List; sievelaw07: TokenPrints.
-/
set_option linter.unusedSimpArgs false
set_option linter.unusedVariables false
set_option linter.unnecessarySimpa false
namespace Go.Proofs.YtjpnhaaneaikbaaDoor
open Go Go.Sv Go.RowKit

/-- a token as it lies in memory: and where its attributes lie -/
structure TokM where
  t : Tok
  p : Option Addr
  c : Nat
def TokM.cells (m : TokM) : List Value := m.t.cells m.p m.c
theorem TokM.len (m : TokM) : m.cells.length = 8 := rfl
structure Toks (w : World) (p : Option Addr) (ms : List TokM) : Prop where
  im : Im [] w p (ms.flatMap TokM.cells)
  each : ∀ m ∈ ms, Im [] w m.p (m.t.attrs.flatMap At.cells)
theorem Toks.frm {w w' : World} {p : Option Addr} {ms : List TokM} (h : Toks w p ms) (hf : Frm w w') : Toks w' p ms := ⟨h.im.frm hf, fun m hm => (h.each m hm).frm hf⟩

def At.wt (x : At) : Nat := x.n.length + x.v.length + 3
def Tok.wt (t : Tok) : Nat := 8 + t.name.length + t.text.length + (t.attrs.map At.wt).sum
def lnR (t : Tok) : List UInt8 := lineR t ++ [10]
def wts (ms : List TokM) : Nat := (ms.map fun m => m.t.wt).sum
def lns (ms : List TokM) : List UInt8 := ms.flatMap fun m => lnR m.t
def allMay (ms : List TokM) : Bool := ms.all fun m => mayR m.t
end Go.Proofs.YtjpnhaaneaikbaaDoor

/-
  Events: what they are, which may be, how they lie in memory.
-/
set_option linter.unusedSimpArgs false
set_option linter.unusedVariables false
set_option linter.unnecessarySimpa false
namespace Go.Proofs.YtjpnhaaneaikbaaDoor
open Go Go.Sv Go.RowKit

structure Ev where
  kind : Int
  name : List UInt8
  text : List UInt8
  attrs : List At
  deriving DecidableEq
def Ev.cells (e : Ev) (p : Option Addr) (c : Nat) : List Value := [int e.kind, str e.name, str e.text, .slice p e.attrs.length c]
structure EvM where
  e : Ev
  p : Option Addr
  c : Nat
def EvM.cells (m : EvM) : List Value := m.e.cells m.p m.c
theorem EvM.len (m : EvM) : m.cells.length = 4 := rfl
structure Ev.small (t : Ev) : Prop where
  name : t.name.length ≤ 1048576
  text : t.text.length ≤ 1048576
  attrs : t.attrs.length ≤ 1048576
  each : ∀ x ∈ t.attrs, x.small
def Ev.wt (t : Ev) : Nat := 4 + t.name.length + t.text.length + (t.attrs.map At.wt).sum
def evw (ms : List EvM) : Nat := (ms.map fun m => m.e.wt).sum
/-- a list of events that can be read -/
structure Evs (w : World) (p : Option Addr) (ms : List EvM) : Prop where
  im : Im [] w p (ms.flatMap EvM.cells)
  each : ∀ m ∈ ms, Im [] w m.p (m.e.attrs.flatMap At.cells)
theorem Evs.frm {w w' : World} {p : Option Addr} {ms : List EvM} (h : Evs w p ms) (hf : Frm w w') : Evs w' p ms := ⟨h.im.frm hf, fun m hm => (h.each m hm).frm hf⟩
/-- where an event's attributes lie, as a row -/
def EvM.row (m : EvM) : RowD := ⟨2, m.p, m.e.attrs.length, m.c, m.e.attrs.flatMap At.cells⟩
/-- a list of events in memory of one's own -/
def evP (q : Option Addr) (c : Nat) (ms : List EvM) : List Plot := [pRow 4 q ms.length c (ms.flatMap EvM.cells), pMany (ms.map EvM.row)]
def EvM.es (ms : List EvM) : List Ev := ms.map EvM.e

/-- the token that opens it -/
def Ev.start (e : Ev) : Tok := ⟨1, e.name, [], e.attrs, false, 0, 0, 0⟩
def Ev.close (e : Ev) : Tok := ⟨2, e.name, [], [], false, 0, 0, 0⟩
end Go.Proofs.YtjpnhaaneaikbaaDoor

/-
  Packages names and sieveref04: classes of bytes, small letters. Blocks of bytes that []byte(s) made.
-/
set_option linter.unusedSimpArgs false
set_option linter.unusedVariables false
set_option linter.unnecessarySimpa false
namespace Go.Sv
open Go Go.RowKit
/-- a block that holds the bytes s and may be written there -/
def OwnB (w : World) (b : Nat) (s : List UInt8) : Prop := ∃ C ty lo hi, w.heap[b]? = some (.cells C ty (lo, hi)) ∧ C.toList.take s.length = bs s ∧ s.length ≤ lo
section
variable {P : Program} {w w' : World} {b i : Nat} {s : List UInt8}
theorem OwnB.lt (h : OwnB w b s) : b < w.heap.size := by
  obtain ⟨C, ty, lo, hi, h, _⟩ := h
  exact (Array.getElem?_eq_some_iff.1 h).1
theorem OwnB.le {M : List Nat} (h : OwnB w b s) (hl : Le M w w') (hb : b ∉ M) : OwnB w' b s := by
  have := h.lt
  obtain ⟨C, ty, lo, hi, h, h2⟩ := h
  exact ⟨C, ty, lo, hi, by rw [hl.block b this hb]; exact h, h2⟩
theorem OwnB.frm (h : OwnB w b s) (hl : Frm w w') : OwnB w' b s := h.le (M := []) hl.le (by simp)
theorem OwnB.sg (h : OwnB w b s) : Sg w (pb b) (bs s) := by
  obtain ⟨C, ty, lo, hi, h, h2, _⟩ := h
  refine .inr ⟨_, rfl, fun i hi' => ?_⟩
  have e : (⟨b, 0, none⟩ : Addr).add i = ⟨b, i, none⟩ := by unfold Addr.add; split <;> simp_all
  rw [e, cell_of_row w b i C ty _ h, ← h2]
  rw [List.getElem?_take_of_lt (by simpa using hi')]
  simp
theorem OwnB.im {M : List Nat} (h : OwnB w b s) (hb : b ∉ M) : Im M w (pb b) (bs s) := by
  rcases h.sg with hh | ⟨a, ha, h1⟩
  · exact .inl hh
  · obtain rfl := Option.some.inj ha
    exact .inr ⟨_, rfl, h1, h.lt, hb⟩
theorem bs_set (s : List UInt8) (i : Nat) (x : UInt8) : bs (s.set i x) = (bs s).set i (byt x.toNat) := by simp [bs, List.map_set]
end
section
variable {P : Program} {n : Nat} {ds : Ctx} {ops : Array Oper} {Q : Exit → Ctx → Env → World → Prop} {rest : List Oper} {σ : GE} {w : World} {d : Nat} {ty t t' e : TypeId} {pos : String} {af : Array Edge} {x y : Operand} {zv : Value} {size bytes : Nat} {b i : Nat} {s : List UInt8}
/-- []byte(s), to be written -/
theorem wls2bo [hu : Und P t .string] [hu' : Und P t' (.slice e)] [he : Und P e (.int .u8)] (hx : evl (real σ) x = str s) (hs : s.length ≤ 9223372036854775807)
    (h : ∀ b c w', w.heap.size ≤ b → s.length ≤ c → c ≤ 9223372036854775807 → OwnB w' b s → Frm w w' → WL P n ds ops Q rest (real (updG σ d ⟨.slice (pb b) s.length c, true⟩)) w') :
    WL P n ds ops Q (⟨some d, .convert t t' x, ty, pos, af, none⟩ :: rest) (real σ) w := by
  let c := grownCap w s.length 0 e
  let C : Array Value := (s.toArray.map fun b => Value.int .u8 b.toNat) ++ Array.replicate (c - s.length) (.int .u8 0)
  have hge : s.length ≤ c := grownCap_ge w s.length 0 e
  have hcm : c ≤ maxLen := grownCap_le_maxLen w s.length 0 e (by unfold maxLen; omega)
  have hsz : C.size = c := by simp [C]; omega
  have hheap : (w.drew.alloc (.cells C e)).heap[w.heap.size]? = some (.cells C e) := heap_alloc_new w.drew _
  let w' := (w.drew.alloc (.cells C e)).freeze ⟨w.heap.size, C.size, none⟩ 1
  have hw' : w'.heap[w.heap.size]? = some (.cells C e (C.size, C.size + 1)) := by
    simp only [w', World.freeze, Nat.one_ne_zero, if_false, Array.getElem?_modify, if_true]
    rw [hheap]; simp
  have hother : ∀ k, k < w.heap.size → w'.heap[k]? = w.heap[k]? := by
    intro k hk
    simp only [w', World.freeze, Nat.one_ne_zero, if_false, Array.getElem?_modify]
    rw [if_neg (by omega)]
    exact Below.heap_alloc w.drew _ k hk
  refine wl (h w.heap.size c w' (Nat.le_refl _) hge (by unfold maxLen at hcm; omega) ?_ ?_) (Y.val ?_)
  · refine ⟨C, e, _, _, hw', ?_, by omega⟩
    have hl : s.length = (s.map fun b => Value.int .u8 b.toNat).length := by simp
    simp only [C, Array.toList_append, Array.toList_map]
    rw [hl, List.take_left' rfl]
    rfl
  · exact ⟨rfl, rfl, rfl, by simp [w', World.freeze], hother⟩
  · have e1 : (ByteArray.mk s.toArray).data = s.toArray := rfl
    simp only [execOp, hx, convert, underlying, Sem.run_bind, run_program, Result.andThen_ok, hu.ok, hu'.ok, he.ok, Sem.run_pure, Conv.stringToBytes, run_choose, Question.forced, size_str, newRow, run_newObj, markStringish, run_shape]
    have hshape : (w.drew.alloc (.cells C e)).shape? w.heap.size = some (e, C.size) := by simp only [World.shape?, hheap]
    have hr : (w.drew.heap.size) = w.heap.size := rfl
    simp only [Bool.false_eq_true, if_false, Result.andThen_ok, World.alloc_eq, e1]
    change (((Sem.run P (match (w.drew.alloc (.cells C e)).shape? w.heap.size with | some (_, n) => freeze { block := w.heap.size, off := n } 1 | _ => pure ()) (w.drew.alloc (.cells C e))).andThen _).andThen _) = _
    rw [hshape]
    simp only [run_freeze, Result.andThen_ok, Sem.run_pure]
    rfl
/-- a byte stored there -/
theorem wlstoreb [hi : Inf P t zv 1 bytes] {v : Nat} (hx : evl (real σ) x = ptrAt (pb b) i) (hy : evl (real σ) y = byt v) (ho : OwnB w b s) (hk : i < s.length) (hv : v < 256)
    (h : ∀ w', OwnB w' b (s.set i (UInt8.ofNat v)) → Le [b] w w' → WL P n ds ops Q rest (real σ) w') :
    WL P n ds ops Q (⟨none, .store t x y, ty, pos, af, none⟩ :: rest) (real σ) w := by
  obtain ⟨C, tt, lo, hi', ho, h2, h3⟩ := ho
  have e : (⟨b, 0, none⟩ : Addr).add i = ⟨b, i, none⟩ := by unfold Addr.add; split <;> simp_all
  have hlen : s.length ≤ C.size := by
    have := congrArg List.length h2
    simp [bs] at this; omega
  have hcell : w.cell? ⟨b, i, none⟩ = some C[i] := by simp [World.cell?, ho, show i < C.size from by omega]
  have hfro : w.frozen? ⟨b, i, none⟩ = false := by
    simp only [World.frozen?, ho, Bool.and_eq_false_iff, decide_eq_false_iff_not]
    left; omega
  have hst : (store (⟨b, i, none⟩ : Addr) (byt v)).run P w = .ok () (w.setRow b (C.setIfInBounds i (byt v))) := by
    rw [run_store P w _ (byt v) _ rfl, hcell]
    simp [hfro, setCell_eq_setRow w b i C tt _ (byt v) ho]
  refine wl0 (h (w.setRow b (C.setIfInBounds i (byt v))) ⟨_, tt, lo, hi', setRow_heap w b C _ tt _ ho, ?_, by simpa using h3⟩ (le_setRow w b _)) (Y.skip ?_)
  · rw [Array.toList_setIfInBounds, List.length_set, List.take_set, h2, bs_set]
    congr 2
    rw [UInt8.toNat_ofNat_of_lt' (by simpa using hv)]
  · simp only [execOp, hx, hy, Instr.storeAt, show ptrAt (pb b) i = .pointer (some ⟨b, i, none⟩) from by simp [e], Instr.sureAddr, Sem.run_bind, Sem.run_pure, Result.andThen_ok, storeVar, run_sizeOf (P := P) (t := t)]
    have e0 : (⟨b, i, none⟩ : Addr).add 0 = ⟨b, i, none⟩ := by unfold Addr.add; simp
    simp [storeCells, Value.cells, Sem.run_bind, e0, hst]
end
end Go.Sv
namespace Go.Proofs.YtjpnhaaneaikbaaDoor
open Go Go.Sv Go.RowKit

def upperR (c : Nat) : Bool := decide (65 ≤ c) && decide (c ≤ 90)
def letterR (c : Nat) : Bool := upperR c || (decide (97 ≤ c) && decide (c ≤ 122))
def digitR (c : Nat) : Bool := decide (48 ≤ c) && decide (c ≤ 57)
def valueR (c : Nat) : Int := if digitR c then (c : Int) - 48 else if 97 ≤ c ∧ c ≤ 102 then (c : Int) - 97 + 10 else if 65 ≤ c ∧ c ≤ 70 then (c : Int) - 65 + 10 else -1
def hexR (c : Nat) : Bool := decide (0 ≤ valueR c)
def lowN (c : Nat) : Nat := if upperR c then c + 32 else c
def lowR (l : List UInt8) : List UInt8 := l.map fun c => UInt8.ofNat (lowN c.toNat)

theorem upper_ok (c : Nat) (w : World) : PureC Tryd.prog 91 #[i32 c] w (.bool (upperR c)) := by
  refine enter (l := [i32 c]) Tryd.func91 rfl Tryd.ntmps91 (by kernel_rfl) rfl ?_
  refine sgo ?_
  (first | refine fp1 (.inl rfl) rfl rfl ?_ | refine fp2 (.inl rfl) rfl rfl rfl ?_ | refine fp3 (.inl rfl) rfl rfl rfl rfl ?_ | refine fp0 (.inr rfl) rfl ?_ | refine fp0 (.inl rfl) rfl ?_ | refine fp1 (.inr rfl) rfl rfl ?_); refine ⟨?_, by (first | exact Frm.refl _ | assumption | exact Go.Sv.Sep.frm (by assumption) | (refine Frm.trans ?_ (by assumption); first | exact Frm.refl _ | assumption))⟩; (try simp only [realB, rv_true, Nat.reduceBEq, cond_true, cond_false, entG, real_lif, updGL])
  refine congrArg Value.bool ?_
  unfold upperR
  rw [Bool.eq_iff_iff]
  simp only [pkb_or, pkb_and, Bool.or_eq_true, Bool.and_eq_true, decide_eq_true_eq]
  omega









theorem digit_ok (c : Nat) (w : World) : PureC Tryd.prog 86 #[i32 c] w (.bool (digitR c)) := by
  refine enter (l := [i32 c]) Tryd.func86 rfl Tryd.ntmps86 (by kernel_rfl) rfl ?_
  refine sgo ?_
  (first | refine fp1 (.inl rfl) rfl rfl ?_ | refine fp2 (.inl rfl) rfl rfl rfl ?_ | refine fp3 (.inl rfl) rfl rfl rfl rfl ?_ | refine fp0 (.inr rfl) rfl ?_ | refine fp0 (.inl rfl) rfl ?_ | refine fp1 (.inr rfl) rfl rfl ?_); refine ⟨?_, by (first | exact Frm.refl _ | assumption | exact Go.Sv.Sep.frm (by assumption) | (refine Frm.trans ?_ (by assumption); first | exact Frm.refl _ | assumption))⟩; (try simp only [realB, rv_true, Nat.reduceBEq, cond_true, cond_false, entG, real_lif, updGL])
  refine congrArg Value.bool ?_
  unfold digitR
  rw [Bool.eq_iff_iff]
  simp only [pkb_or, pkb_and, Bool.or_eq_true, Bool.and_eq_true, decide_eq_true_eq]
  omega









theorem letter_ok (c : Nat) (w : World) : PureC Tryd.prog 85 #[i32 c] w (.bool (letterR c)) := by
  refine enter (l := [i32 c]) Tryd.func85 rfl Tryd.ntmps85 (by kernel_rfl) rfl ?_
  refine sgo ?_
  refine wlpure (upper_ok c _) fun w1 hf1 => ?_
  refine sgo ?_
  (first | refine fp1 (.inl rfl) rfl rfl ?_ | refine fp2 (.inl rfl) rfl rfl rfl ?_ | refine fp3 (.inl rfl) rfl rfl rfl rfl ?_ | refine fp0 (.inr rfl) rfl ?_ | refine fp0 (.inl rfl) rfl ?_ | refine fp1 (.inr rfl) rfl rfl ?_); refine ⟨?_, by (first | exact Frm.refl _ | assumption | exact Go.Sv.Sep.frm (by assumption) | (refine Frm.trans ?_ (by assumption); first | exact Frm.refl _ | assumption))⟩; (try simp only [realB, rv_true, Nat.reduceBEq, cond_true, cond_false, entG, real_lif, updGL])
  refine congrArg Value.bool ?_
  unfold letterR upperR
  rw [Bool.eq_iff_iff]
  simp only [pkb_or, pkb_and, Bool.or_eq_true, Bool.and_eq_true, decide_eq_true_eq]
  omega




































































































theorem at_lt (l : List UInt8) (i : Nat) : at0 l i < 256 := by simp only [at0]; exact UInt8.toNat_lt _
theorem lowR_len (l : List UInt8) : (lowR l).length = l.length := by simp [lowR]
/-- the first i bytes are small -/
def lowTo (l : List UInt8) (i : Nat) : List UInt8 := lowR (l.take i) ++ l.drop i
theorem lowTo_len (l : List UInt8) (i : Nat) : (lowTo l i).length = l.length := by simp [lowTo, lowR]; omega
theorem lowTo_zero (l : List UInt8) : lowTo l 0 = l := by simp [lowTo, lowR]
theorem lowTo_all (l : List UInt8) : lowTo l l.length = lowR l := by simp [lowTo]
theorem lowTo_at (l : List UInt8) (i : Nat) : at0 (lowTo l i) i = at0 l i := by
  simp only [at0, lowTo]
  rw [List.getElem?_append]
  by_cases h : i < l.length
  · simp [lowR, Nat.min_eq_left (Nat.le_of_lt h)]
  · rw [if_neg (by simp [lowR]; omega), List.getElem?_eq_none (by simp; omega), List.getElem?_eq_none (by omega)]
theorem lowTo_succ (l : List UInt8) (i : Nat) (h : i < l.length) : lowTo l (i + 1) = (lowTo l i).set i (UInt8.ofNat (lowN (at0 l i))) := by
  have e : at0 l i = l[i].toNat := by simp [at0, h]
  simp only [lowTo, e]
  rw [List.set_append_right _ _ (by simp [lowR]; omega)]
  simp only [lowR, List.length_map, List.length_take, Nat.min_eq_left (Nat.le_of_lt h), Nat.sub_self]
  rw [List.drop_eq_getElem_cons h, List.set_cons_zero, List.take_succ_eq_append_getElem h, List.map_append]
  simp only [List.map_cons, List.map_nil, List.append_assoc, List.cons_append, List.nil_append]
theorem lowTo_keep (l : List UInt8) (i : Nat) (h : i < l.length) (hu : upperR (at0 l i) = false) : lowTo l (i + 1) = lowTo l i := by
  rw [lowTo_succ l i h, lowN, hu, ← lowTo_at l i]
  have hl : i < (lowTo l i).length := by rw [lowTo_len]; exact h
  have : UInt8.ofNat (at0 (lowTo l i) i) = (lowTo l i)[i] := by simp [at0, hl]
  simp only [Bool.false_eq_true, if_false]
  rw [this, List.set_getElem_self]
set_option maxHeartbeats 1000000 in
theorem lower_ok (l : List UInt8) (hb : l.length ≤ 4611686018427387904) (w : World) : PureC Tryd.prog 76 #[str l] w (str (lowR l)) := by
  refine enter (l := [str l]) Tryd.func76 rfl Tryd.ntmps76 (by kernel_rfl) rfl ?_
  refine sgo ?_
  refine wls2bo rfl (by omega) fun b c w1 hb1 hc1 hc2 ho hf1 => ?_
  refine sgo ?_
  refine wcloop (X := Nat) (fun x => [(3, .slice (pb b) l.length c), (8, .slice (pb b) l.length c), (9, int l.length), (10, int x)])
    (fun x wr => x ≤ l.length ∧ OwnB wr b (lowTo l x) ∧ Frm w wr) (fun x => l.length - x) 0 ⟨rfl, rfl, rfl, rfl, trivial⟩ ⟨by omega, by rw [lowTo_zero]; exact ho, hf1⟩ ?_
  rintro i wr ρ ⟨hi, ho, hfr⟩
  refine sgo ?_
  (show WC _ _ _ _ _ _ _; first | refine WC_dec rfl (fun hc => ?_) (fun hc => ?_) | refine WC_cond rfl (fun hc => ?_) (fun hc => ?_))
  · have hil : i < l.length := by omega
    have hll := lowTo_len l i
    have hld : (bs (lowTo l i))[i]? = some (byt (at0 l i)) := by
      rw [bs_get (by omega)]
      exact congrArg (fun n : Nat => some (byt n)) (lowTo_at l i)
    have h256 := at_lt l i
    refine sgo ?_
    refine wl ?_ (y_load (i := i) rfl ho.sg hld)
    have hup := lowTo_succ l i hil
    have hkp := lowTo_keep l i hil
    generalize at0 l i = a at *
    refine sgo ?_
    (show WC _ _ _ _ _ _ _; first | refine WC_dec rfl (fun hc => ?_) (fun hc => ?_) | refine WC_cond rfl (fun hc => ?_) (fun hc => ?_))
    · simp only [pkb_and, Bool.and_eq_true, decide_eq_true_eq] at hc
      have h65 : 65 ≤ a ∧ a ≤ 90 := by omega
      rw [lowN, show upperR a = true from by simp [upperR, h65], if_pos rfl] at hup
      refine sgo ?_
      have e : ((a : Int) + 97 - 65) = ((a + 32 : Nat) : Int) := by omega
      refine wlstoreb (v := a + 32) rfl (congrArg byt e) ho (by omega) (by omega) fun w2 ho2 hl2 => ?_
      have hfr2 := hfr.step hl2 (by intro x hx; simp only [List.mem_singleton] at hx; subst hx; exact hb1)
      refine sgo ?_
      exact ⟨i + 1, ⟨rfl, rfl, rfl, rfl, trivial⟩, ⟨by omega, by rw [hup]; exact ho2, hfr2⟩, by omega⟩
    · simp only [pkb_and, Bool.and_eq_false_iff, decide_eq_false_iff_not] at hc
      have h65 : ¬ (65 ≤ a ∧ a ≤ 90) := by omega
      replace hkp := hkp (by simp only [upperR, ← Bool.decide_and]; exact decide_eq_false h65)
      refine sgo ?_
      exact ⟨i + 1, ⟨rfl, rfl, rfl, rfl, trivial⟩, ⟨by omega, by rw [hkp]; exact ho, hfr⟩, by omega⟩
  · obtain rfl : i = l.length := by omega
    have hll := lowTo_len l l.length
    rw [lowTo_all] at ho hll
    refine sgo ?_
    refine wl ?_ (y_b2s (s := lowR l) (by rw [hll]; rfl) ho.sg)
    refine sgo ?_
    (first | refine fp1 (.inl rfl) rfl rfl ?_ | refine fp2 (.inl rfl) rfl rfl rfl ?_ | refine fp3 (.inl rfl) rfl rfl rfl rfl ?_ | refine fp0 (.inr rfl) rfl ?_ | refine fp0 (.inl rfl) rfl ?_ | refine fp1 (.inr rfl) rfl rfl ?_); refine ⟨?_, by (first | exact Frm.refl _ | assumption | exact Go.Sv.Sep.frm (by assumption) | (refine Frm.trans ?_ (by assumption); first | exact Frm.refl _ | assumption))⟩; (try simp only [realB, rv_true, Nat.reduceBEq, cond_true, cond_false, entG, real_lif, updGL])
end Go.Proofs.YtjpnhaaneaikbaaDoor

/-
  Package link: schemes; what is stripped.
-/
set_option linter.unusedSimpArgs false
set_option linter.unusedVariables false
set_option linter.unnecessarySimpa false
namespace Go.Sv
open Go Go.RowKit
section
variable {P : Program} {n : Nat} {ds : Ctx} {ops : Array Oper} {Q : Exit → Ctx → Env → World → Prop} {rest : List Oper} {σ : GE} {w : World} {d : Nat} {ty t e : TypeId} {pos : String} {af : Array Edge} {x y : Operand} {zv : Value} {size bytes c : Nat} {kl kc : IntKind}
/-- make of no elements, with room for c -/
theorem wlmake0 [hu : Und P t (.slice e)] [hi : Inf P e zv size bytes] (h : ∀ b w', w.heap.size ≤ b → Row w' size (pb b) 0 c [] → Frm w w' → WL P n ds ops Q rest (real (updG σ d ⟨.slice (pb b) 0 c, true⟩)) w')
    (hx : evl (real σ) x = .int kl 0 := by rfl) (hy : evl (real σ) y = .int kc c := by rfl) (hb : bytes * c ≤ 281474976710656 := by omega) (hc : c ≤ 9223372036854775807 := by omega) :
    WL P n ds ops Q (⟨some d, .makeSlice t x y, ty, pos, af, none⟩ :: rest) (real σ) w := by
  obtain ⟨i, h1, h2, h3, h4⟩ := inf_size (P := P) (t := e)
  subst h3 h4
  have hbI : (i.bytes : Int) * (c : Int) ≤ 281474976710656 := by
    have h : ((i.bytes * c : Nat) : Int) ≤ 281474976710656 := by omega
    rwa [Int.natCast_mul] at h
  have hr := run_make (P := P) w t e i zv hu.ok h1 h2 kl kc 0 c (Int.le_refl _) (by omega) hbI (by omega)
  simp only [Int.toNat_zero, Int.toNat_natCast] at hr
  refine wl (h w.heap.size (w.alloc (.cells (madeCells zv.cells (c * i.size)) e)) (Nat.le_refl _) ?_ (frm_alloc w _)) (Y.val ?_)
  · refine ⟨by simp, .inr ⟨_, 0, _, _, rfl, heap_alloc_new _ _, by omega, hc, by rw [size_madeCells]; omega, by simp⟩⟩
  · simp only [execOp, hx, hy, Sem.run_bind]
    rw [hr]
    rfl
end
end Go.Sv
namespace Go.Proofs.YtjpnhaaneaikbaaDoor
open Go Go.Sv Go.RowKit

def schB (c : Nat) : Bool := letterR c || digitR c || decide (c = 43 ∨ c = 45 ∨ c = 46)
theorem schemeByte_ok (c : Nat) (hn : c < 256) (w : World) : PureC Tryd.prog 77 #[byt c] w (.bool (schB c)) := by
  refine enter (l := [byt c]) Tryd.func77 rfl Tryd.ntmps77 (by kernel_rfl) rfl ?_
  refine sgo ?_
  refine wlpure (letter_ok c _) fun w1 hf1 => ?_
  refine sgo ?_
  refine wlcallgp (vals := [i32 c]) (fun _ => digit_ok c _) fun w2 hf2 => ?_
  refine sgo ?_
  (first | refine fp1 (.inl rfl) rfl rfl ?_ | refine fp2 (.inl rfl) rfl rfl rfl ?_ | refine fp3 (.inl rfl) rfl rfl rfl rfl ?_ | refine fp0 (.inr rfl) rfl ?_ | refine fp0 (.inl rfl) rfl ?_ | refine fp1 (.inr rfl) rfl rfl ?_); refine ⟨?_, by (first | exact Frm.refl _ | assumption | exact Go.Sv.Sep.frm (by assumption) | (refine Frm.trans ?_ (by assumption); first | exact Frm.refl _ | assumption))⟩; (try simp only [realB, rv_true, Nat.reduceBEq, cond_true, cond_false, entG, real_lif, updGL])
  refine congrArg Value.bool ?_
  unfold schB
  rw [Bool.eq_iff_iff]
  simp only [pkb_or]
  grind
/-- a scheme's end, behind its first byte -/
def schF : List UInt8 → Nat → Nat × Bool
  | [], _ => (0, false)
  | c :: t, i => if c.toNat = 58 then (i, true) else if schB c.toNat then schF t (i + 1) else (0, false)
def schemeR (l : List UInt8) : Nat × Bool := if l = [] ∨ letterR (at0 l 0) = false then (0, false) else schF (l.drop 1) 1
theorem schF_at (l : List UInt8) (i : Nat) (h : i < l.length) : schF (l.drop i) i = if at0 l i = 58 then (i, true) else if schB (at0 l i) then schF (l.drop (i + 1)) (i + 1) else (0, false) := by
  rw [List.drop_eq_getElem_cons h, schF]
  simp [at0, h]
theorem schF_le : ∀ (l : List UInt8) (i : Nat), (schF l i).1 ≤ i + l.length
  | [], i => by simp [schF]
  | c :: t, i => by
    have := schF_le t (i + 1)
    simp only [schF]
    repeat' split
    · simp
    · simp only [List.length_cons]; omega
    · simp
theorem schemeR_le (l : List UInt8) : (schemeR l).1 ≤ l.length := by
  unfold schemeR
  split
  · simp
  · rename_i h
    have := schF_le (l.drop 1) 1
    cases l with
    | nil => simp at h
    | cons c t => simp at this ⊢; omega
set_option maxHeartbeats 1000000 in
theorem scheme_ok (l : List UInt8) (hb : l.length ≤ 4611686018427387904) (w : World) : PureC Tryd.prog 78 #[str l] w (.tuple #[int (schemeR l).1, .bool (schemeR l).2]) := by
  by_cases hl : l = []
  · subst hl
    refine enter (l := [str []]) Tryd.func78 rfl Tryd.ntmps78 (by kernel_rfl) rfl ?_
    refine sgo ?_
    refine wlcallgp (vals := [i32 0]) (fun _ => letter_ok 0 _) fun w1 hf1 => ?_
    refine sgo ?_
    (first | refine fp1 (.inl rfl) rfl rfl ?_ | refine fp2 (.inl rfl) rfl rfl rfl ?_ | refine fp3 (.inl rfl) rfl rfl rfl rfl ?_ | refine fp0 (.inr rfl) rfl ?_ | refine fp0 (.inl rfl) rfl ?_ | refine fp1 (.inr rfl) rfl rfl ?_); refine ⟨?_, by (first | exact Frm.refl _ | assumption | exact Go.Sv.Sep.frm (by assumption) | (refine Frm.trans ?_ (by assumption); first | exact Frm.refl _ | assumption))⟩; (try simp only [realB, rv_true, Nat.reduceBEq, cond_true, cond_false, entG, real_lif, updGL])
    rfl
  have hlen := List.length_pos_iff.2 hl
  refine enter (l := [str l]) Tryd.func78 rfl Tryd.ntmps78 (by kernel_rfl) rfl ?_
  refine sgo ?_
  have h256 := at_lt l 0
  refine wlcallgp (vals := [i32 (at0 l 0)]) (fun _ => letter_ok (at0 l 0) _) fun w1 hf1 => ?_
  refine sgo ?_
  (show WC _ _ _ _ _ _ _; first | refine WC_dec rfl (fun hc => ?_) (fun hc => ?_) | refine WC_cond rfl (fun hc => ?_) (fun hc => ?_))
  · simp only [pkb_or, Bool.or_eq_true, decide_eq_true_eq, Bool.not_eq_true'] at hc
    refine sgo ?_
    (first | refine fp1 (.inl rfl) rfl rfl ?_ | refine fp2 (.inl rfl) rfl rfl rfl ?_ | refine fp3 (.inl rfl) rfl rfl rfl rfl ?_ | refine fp0 (.inr rfl) rfl ?_ | refine fp0 (.inl rfl) rfl ?_ | refine fp1 (.inr rfl) rfl rfl ?_); refine ⟨?_, by (first | exact Frm.refl _ | assumption | exact Go.Sv.Sep.frm (by assumption) | (refine Frm.trans ?_ (by assumption); first | exact Frm.refl _ | assumption))⟩; (try simp only [realB, rv_true, Nat.reduceBEq, cond_true, cond_false, entG, real_lif, updGL])
    rw [schemeR, if_pos hc]
    rfl
  · simp only [pkb_or, Bool.or_eq_false_iff, decide_eq_false_iff_not, Bool.not_eq_false'] at hc
    have hs : schemeR l = schF (l.drop 1) 1 := by
      rw [schemeR, if_neg (by simp [hl, hc.2])]
    rw [hs]
    clear hc
    refine sgo ?_
    refine wcloop (X := Nat) (fun x => [(0, str l), (4, int x)])
      (fun x wr => x ≤ l.length ∧ schF (l.drop x) x = schF (l.drop 1) 1 ∧ Frm w wr) (fun x => l.length - x) 1 ⟨rfl, rfl, trivial⟩ ⟨by omega, rfl, hf1⟩ ?_
    rintro i wr ρ ⟨hi, he, hfr⟩
    refine sgo ?_
    (show WC _ _ _ _ _ _ _; first | refine WC_dec rfl (fun hc => ?_) (fun hc => ?_) | refine WC_cond rfl (fun hc => ?_) (fun hc => ?_))
    · have hil : i < l.length := by omega
      have hstep := schF_at l i hil
      rw [he] at hstep
      rw [hstep]
      have h2 := at_lt l i
      refine sgo ?_
      (show WC _ _ _ _ _ _ _; first | refine WC_dec rfl (fun hc => ?_) (fun hc => ?_) | refine WC_cond rfl (fun hc => ?_) (fun hc => ?_))
      · rw [if_pos (by simp only [at0]; omega)]
        refine sgo ?_
        (first | refine fp1 (.inl rfl) rfl rfl ?_ | refine fp2 (.inl rfl) rfl rfl rfl ?_ | refine fp3 (.inl rfl) rfl rfl rfl rfl ?_ | refine fp0 (.inr rfl) rfl ?_ | refine fp0 (.inl rfl) rfl ?_ | refine fp1 (.inr rfl) rfl rfl ?_); refine ⟨?_, by (first | exact Frm.refl _ | assumption | exact Go.Sv.Sep.frm (by assumption) | (refine Frm.trans ?_ (by assumption); first | exact Frm.refl _ | assumption))⟩; (try simp only [realB, rv_true, Nat.reduceBEq, cond_true, cond_false, entG, real_lif, updGL])
      · rw [if_neg (by simp only [at0]; omega)] at hstep ⊢
        refine sgo ?_
        refine wlpure (schemeByte_ok (at0 l i) h2 _) fun w2 hf2 => ?_
        have hfr2 := hfr.trans hf2
        refine sgo ?_
        (show WC _ _ _ _ _ _ _; first | refine WC_dec rfl (fun hc => ?_) (fun hc => ?_) | refine WC_cond rfl (fun hc => ?_) (fun hc => ?_))
        · simp only [Bool.not_eq_true'] at hc
          rw [if_neg (by simp [hc])]
          refine sgo ?_
          (first | refine fp1 (.inl rfl) rfl rfl ?_ | refine fp2 (.inl rfl) rfl rfl rfl ?_ | refine fp3 (.inl rfl) rfl rfl rfl rfl ?_ | refine fp0 (.inr rfl) rfl ?_ | refine fp0 (.inl rfl) rfl ?_ | refine fp1 (.inr rfl) rfl rfl ?_); refine ⟨?_, by (first | exact Frm.refl _ | assumption | exact Go.Sv.Sep.frm (by assumption) | (refine Frm.trans ?_ (by assumption); first | exact Frm.refl _ | assumption))⟩; (try simp only [realB, rv_true, Nat.reduceBEq, cond_true, cond_false, entG, real_lif, updGL])
          rfl
        · simp only [Bool.not_eq_false'] at hc
          rw [if_pos hc] at hstep ⊢
          refine sgo ?_
          exact ⟨i + 1, ⟨rfl, rfl, trivial⟩, ⟨by omega, rfl, hfr2⟩, by omega⟩
    · obtain rfl : i = l.length := by omega
      rw [List.drop_length] at he
      rw [← he]
      refine sgo ?_
      (first | refine fp1 (.inl rfl) rfl rfl ?_ | refine fp2 (.inl rfl) rfl rfl rfl ?_ | refine fp3 (.inl rfl) rfl rfl rfl rfl ?_ | refine fp0 (.inr rfl) rfl ?_ | refine fp0 (.inl rfl) rfl ?_ | refine fp1 (.inr rfl) rfl rfl ?_); refine ⟨?_, by (first | exact Frm.refl _ | assumption | exact Go.Sv.Sep.frm (by assumption) | (refine Frm.trans ?_ (by assumption); first | exact Frm.refl _ | assumption))⟩; (try simp only [realB, rv_true, Nat.reduceBEq, cond_true, cond_false, entG, real_lif, updGL])
      rfl

theorem gdec {p : Prop} [Decidable p] (h : (true && (decide p == true)) = true) : p := by simpa using h
/-- what is left of runes behind leading blanks and controls -/
def cutL (rs : List Nat) : List Nat := rs.dropWhile fun r => decide (r ≤ 32)
def cutT (rs : List Nat) : List Nat := (cutL rs.reverse).reverse
def keepN (rs : List Nat) : List Nat := rs.filter fun r => decide (r ≠ 9 ∧ r ≠ 10 ∧ r ≠ 13)
def stripN (rs : List Nat) : List Nat := keepN (cutT (cutL rs))
def stripR (l : List UInt8) : List UInt8 := (stripN (runesN l)).flatMap encR
theorem cutL_at (rs : List Nat) (i : Nat) (h : i < rs.length) : cutL (rs.drop i) = if rs[i]?.getD 0 ≤ 32 then cutL (rs.drop (i + 1)) else rs.drop i := by
  rw [List.drop_eq_getElem_cons h, cutL, List.dropWhile_cons]
  simp [h, cutL]
theorem cutT_at (rs : List Nat) (i : Nat) (h : i < rs.length) : cutT (rs.take (i + 1)) = if rs[i]?.getD 0 ≤ 32 then cutT (rs.take i) else rs.take (i + 1) := by
  rw [List.take_succ_eq_append_getElem h, cutT, List.reverse_append, cutL]
  simp only [List.reverse_cons, List.reverse_nil, List.nil_append, List.cons_append, List.dropWhile_cons]
  simp only [List.getElem?_eq_getElem h, Option.getD_some, decide_eq_true_eq]
  split
  · rfl
  · simp
theorem cutL_mem {rs : List Nat} {r : Nat} (h : r ∈ cutL rs) : r ∈ rs := (List.dropWhile_sublist _).subset h
theorem cutT_mem {rs : List Nat} {r : Nat} (h : r ∈ cutT rs) : r ∈ rs := by
  have := cutL_mem (List.mem_reverse.1 h)
  simpa using this
theorem stripN_mem {rs : List Nat} {r : Nat} (h : r ∈ stripN rs) : r ∈ rs := cutL_mem (cutT_mem (List.mem_filter.1 h).1)
theorem rs32_drop (rs : List Nat) (i : Nat) : (rs32 rs).drop i = rs32 (rs.drop i) := by simp [rs32, List.map_drop]
theorem rs32_take (rs : List Nat) (i : Nat) : (rs32 rs).take i = rs32 (rs.take i) := by simp [rs32, List.map_take]

set_option maxHeartbeats 1000000 in
theorem strip_ok (l : List UInt8) (hb : l.length ≤ 1073741824) (w : World) : PureC Tryd.prog 55 #[str l] w (str (stripR l)) := by
  refine enter (l := [str l]) Tryd.func55 rfl Tryd.ntmps55 (by kernel_rfl) rfl ?_
  refine sgo ?_
  refine wlpure (mend_ok l hb _) fun w1 hf1 => ?_
  have hml := mendR_len l
  refine sgo ?_
  refine wls2r (valid_mend l) (by omega) fun b c w2 hb2 hR2 hf2 => ?_
  rw [runesN_mend] at hR2 ⊢
  have hfr2 := hf1.trans hf2
  have hcap := hR2.le_cap
  have hrl := runesN_len l
  have hgd := runesN_good l
  have hI2 := hR2.im (M := []) (by simp)
  unfold stripR stripN
  generalize runesN l = rs at *
  refine sgo ?_
  refine wcloop (X := Nat × Option Addr × Nat) (fun x => [(3, .slice x.2.1 (rs.length - x.1) x.2.2)])
    (fun x wr => x.1 ≤ rs.length ∧ rs.length - x.1 ≤ x.2.2 ∧ x.2.2 ≤ 9223372036854775807 ∧ Im [] wr x.2.1 (rs32 (rs.drop x.1)) ∧ cutL (rs.drop x.1) = cutL rs ∧ Frm w wr) (fun x => rs.length - x.1) (0, pb b, c) ⟨rfl, trivial⟩ ⟨by omega, hcap.1, hcap.2, hI2, rfl, hfr2⟩ ?_
  rintro ⟨i, p, c1⟩ wr ρ ⟨hi, hc1, hc2, hI, he, hfr⟩
  dsimp only at hi hc1 hc2 hI he ⊢
  have hdl : (rs32 (rs.drop i)).length = rs.length - i := by simp [rs32]
  have hsome : 0 < rs.length - i → ∃ a, p = some a := fun h => hI.some (by omega)
  have hget : 0 < rs.length - i → (rs32 (rs.drop i))[0]? = some (i32 (rs[i]?.getD 0 : Nat)) := fun h => by
    exact rs32_get (by simp [show i < rs.length from by omega])
  have hcut := cutL_at rs i
  generalize rs[i]?.getD 0 = r at *
  refine sgo ?_
  refine wlg (v := ptrAt p 0) ?_ rfl rfl (fun hg => y_idx1 (i := 0) (evG hg) (evG hg) (by have := gdec hg; omega) (hsome (by have := gdec hg; omega)))
  refine wlg (v := i32 r) ?_ rfl rfl (fun hg => y_load (i := 0) (evG hg) hI.sg (hget (by have := gdec hg; omega)))
  refine sgo ?_
  (show WC _ _ _ _ _ _ _; first | refine WC_dec rfl (fun hc => ?_) (fun hc => ?_) | refine WC_cond rfl (fun hc => ?_) (fun hc => ?_))
  · simp only [pkb_and, Bool.and_eq_true, decide_eq_true_eq] at hc
    have hil : i < rs.length := by omega
    have hcut := hcut hil
    rw [if_pos (by omega), he] at hcut
    refine sgo ?_
    have hI3 := hI.part1 (c := c1) (i' := 1) (by intro h; rw [rs32_drop, List.drop_drop, List.drop_eq_nil_of_le (by omega)]; rfl)
    rw [rs32_drop, List.drop_drop] at hI3
    exact ⟨(i + 1, slp c1 1 p 1, c1 - 1), ⟨rfl, trivial⟩, ⟨by dsimp only; omega, by dsimp only; omega, by dsimp only; omega, hI3, hcut.symm, hfr⟩, by dsimp only; omega⟩
  · simp only [pkb_and, Bool.and_eq_false_iff, decide_eq_false_iff_not] at hc
    have hdone : cutL rs = rs.drop i := by
      rcases Nat.lt_or_ge i rs.length with h | h
      · rw [← he, hcut h, if_neg (by omega)]
      · rw [← he, List.drop_eq_nil_of_le h]; rfl
    rw [hdone]
    have hdl2 : (rs.drop i).length = rs.length - i := by simp
    rw [← hdl2] at hc1
    have hgd2 : ∀ r ∈ rs.drop i, Good r := fun r hr => hgd r (List.mem_of_mem_drop hr)
    have hl2 : (rs.drop i).length ≤ 1073741824 := by omega
    clear hc
    refine sgo ?_
    rw [← hdl2]
    clear hdone hdl2 hcut he hget hsome hdl hI2 hR2 hgd hrl
    generalize rs.drop i = qs at *
    refine wcloop (X := Nat) (fun x => [(3, .slice p x c1)])
      (fun x wr => x ≤ qs.length ∧ cutT (qs.take x) = cutT qs ∧ Im [] wr p (rs32 (qs.take x)) ∧ Frm w wr) (fun x => x) qs.length ⟨rfl, trivial⟩ ⟨by omega, by rw [List.take_length], by rw [List.take_length]; exact hI, hfr⟩ ?_
    clear hI hfr hi r wr ρ
    rintro k wr ρ ⟨hk, he, hI, hfr⟩
    have hkl : (qs.take k).length = k := by simp; omega
    have hsome : 0 < k → ∃ a, p = some a := fun h => hI.some (by rw [rs32_length]; omega)
    have hget : 0 < k → (rs32 (qs.take k))[k - 1]? = some (i32 (qs[k - 1]?.getD 0 : Nat)) := fun h => by
      refine rs32_get ?_
      rw [List.getElem?_take_of_lt (by omega)]
      simp [show k - 1 < qs.length from by omega]
    have hcut := cutT_at qs (k - 1)
    generalize qs[k - 1]?.getD 0 = r at *
    have ek : ((k : Int) - 1).toNat = k - 1 := by omega
    refine sgo ?_
    refine wlg (v := ptrAt p ((k : Int) - 1).toNat) ?_ rfl rfl (fun hg => y_idx1I (evG hg) (evG hg) (by have := gdec hg; omega) (hsome (by have := gdec hg; omega)))
    rw [← ek] at hget
    refine wlg (v := i32 r) ?_ rfl rfl (fun hg => y_load (evG hg) hI.sg (hget (by have := gdec hg; omega)))
    refine sgo ?_
    (show WC _ _ _ _ _ _ _; first | refine WC_dec rfl (fun hc => ?_) (fun hc => ?_) | refine WC_cond rfl (fun hc => ?_) (fun hc => ?_))
    · simp only [pkb_and, Bool.and_eq_true, decide_eq_true_eq] at hc
      have h0 : 0 < k := by omega
      have hcut := hcut (by omega)
      rw [if_pos (by omega), Nat.sub_add_cancel h0, he] at hcut
      have hI3 := hI.take (k - 1)
      rw [rs32_take, List.take_take, Nat.min_eq_left (by omega)] at hI3
      refine sgo ?_
      exact ⟨k - 1, ⟨congrArg (fun x => Value.slice p x c1) ek, trivial⟩, ⟨by omega, hcut.symm, hI3, hfr⟩, by omega⟩
    · simp only [pkb_and, Bool.and_eq_false_iff, decide_eq_false_iff_not] at hc
      have hdone : cutT qs = qs.take k := by
        rcases Nat.eq_zero_or_pos k with h | h
        · rw [← he, h]; rfl
        · have := hcut (by omega)
          rw [if_neg (by omega), Nat.sub_add_cancel h, he] at this
          exact this
      rw [hdone]
      have hgd3 : ∀ r ∈ qs.take k, Good r := fun r hr => hgd2 r (List.mem_of_mem_take hr)
      have hl3 : (qs.take k).length ≤ 1073741824 := by omega
      clear hc
      refine sgo ?_
      have hc3 : (qs.take k).length ≤ c1 := by omega
      clear hdone hcut he hget hsome hgd2 hc1 hl2 hk ek
      generalize qs.take k = ts at *
      subst hkl
      have hBw : ∀ {x}, wr.heap.size ≤ x → w.heap.size ≤ x := fun h => Nat.le_trans hfr.size h
      clear hcap hb2 hf2 hf1 hfr2 hc2 hml hb w1 w2
      refine wlmake0 fun b0 w0 hb0 hR0 hf0 => ?_
      replace hI := (hI.fresh hb0).frm hf0
      replace hfr := hfr.trans hf0
      have hBb : ∀ x ∈ rb (pb b0), w.heap.size ≤ x := by
        intro x hx
        simp only [rb, List.mem_singleton] at hx
        subst hx
        exact hBw hb0
      clear hb0 hf0
      refine sgo ?_
      refine wcloop (X := Nat × Option Addr × List Nat × Nat) (fun x => [(4, .slice x.2.1 x.2.2.1.length x.2.2.2), (41, .slice p ts.length c1), (42, int ts.length), (43, int x.1)])
        (fun x wr => x.1 ≤ ts.length ∧ x.2.2.1.length ≤ x.1 ∧ keepN (ts.take x.1) = x.2.2.1 ∧ Row wr 1 x.2.1 x.2.2.1.length x.2.2.2 (rs32 x.2.2.1) ∧ Im (rb x.2.1) wr p (rs32 ts) ∧ (∀ y ∈ rb x.2.1, w.heap.size ≤ y) ∧ Frm w wr) (fun x => ts.length - x.1) (0, pb b0, [], ts.length) ⟨rfl, rfl, rfl, rfl, trivial⟩ ⟨by omega, by simp, rfl, hR0, hI, hBb, hfr⟩ ?_
      clear hR0 hI hBb hfr hBw wr ρ
      rintro ⟨j, q, ks, c2⟩ wr ρ ⟨hj, hkl, hke, hR, hI, hBb, hfr⟩
      dsimp only at hj hkl hke hR hI hBb ⊢
      refine sgo ?_
      (show WC _ _ _ _ _ _ _; first | refine WC_dec rfl (fun hc => ?_) (fun hc => ?_) | refine WC_cond rfl (fun hc => ?_) (fun hc => ?_))
      · have hjl : j < ts.length := by omega
        have hst : keepN (ts.take (j + 1)) = ks ++ keepN [ts[j]?.getD 0] := by
          rw [List.take_succ_eq_append_getElem hjl, keepN, List.filter_append]
          rw [show List.filter _ (ts.take j) = ks from hke]
          simp [hjl, keepN]
        have hget : (rs32 ts)[j]? = some (i32 (ts[j]?.getD 0 : Nat)) := rs32_get (by simp [hjl])
        generalize ts[j]?.getD 0 = r at *
        have hsome := hI.some (by rw [rs32_length]; omega)
        refine sgo ?_
        by_cases hr : r ≠ 9 ∧ r ≠ 10 ∧ r ≠ 13
        · rw [show keepN [r] = [r] from by simp [keepN, hr]] at hst
          iterate 3 (refine sgo ?_; refine WC_dec rfl (fun hc => absurd hc (by omega)) (fun hc => ?_))
          refine sgo ?_
          refine wlb1_int fun b6 w6 hb6 ho6 hf6 => ?_
          refine wlapp (hR.frm hf6) ho6.sg (fun q' c' w7 hR7 hl7 => ?_)
          have hIm7 := (hI.frm hf6).lm hl7
          have hfr7 := (hfr.trans hf6).step hl7.1 hBb
          have hBb7 : ∀ y ∈ rb q', w.heap.size ≤ y := by
            intro y hy
            rcases Nat.lt_or_ge y w6.heap.size with h | h
            · exact hBb y (hl7.2 y hy h)
            · exact Nat.le_trans (hfr.trans hf6).size h
          refine sgo ?_
          exact ⟨(j + 1, q', ks ++ [r], c'), ⟨by rw [List.length_append]; rfl, rfl, rfl, rfl, trivial⟩, ⟨by dsimp only; omega, by simp; omega, hst, by dsimp only; rw [List.length_append, rs32, List.map_append]; exact hR7, hIm7, hBb7, hfr7⟩, by dsimp only; omega⟩
        · rw [show keepN [r] = [] from by simp [keepN]; omega, List.append_nil] at hst
          have hgo : ∀ {A : Prop}, A → A := fun h => h
          by_cases h9 : r = 9
          · subst h9
            refine sgo ?_
            exact ⟨(j + 1, q, ks, c2), ⟨rfl, rfl, rfl, rfl, trivial⟩, ⟨by dsimp only; omega, by dsimp only; omega, hst, hR, hI, hBb, hfr⟩, by dsimp only; omega⟩
          · by_cases h10 : r = 10
            · subst h10
              refine sgo ?_
              exact ⟨(j + 1, q, ks, c2), ⟨rfl, rfl, rfl, rfl, trivial⟩, ⟨by dsimp only; omega, by dsimp only; omega, hst, hR, hI, hBb, hfr⟩, by dsimp only; omega⟩
            · obtain rfl : r = 13 := by omega
              refine sgo ?_
              exact ⟨(j + 1, q, ks, c2), ⟨rfl, rfl, rfl, rfl, trivial⟩, ⟨by dsimp only; omega, by dsimp only; omega, hst, hR, hI, hBb, hfr⟩, by dsimp only; omega⟩
      · obtain rfl : j = ts.length := by omega
        rw [List.take_length] at hke
        rw [← hke] at hR hkl ⊢
        refine sgo ?_
        refine wl ?_ (y_r2s (fun r hr => hgd3 r (List.mem_filter.1 hr).1) hR.sg rfl)
        refine sgo ?_
        (first | refine fp1 (.inl rfl) rfl rfl ?_ | refine fp2 (.inl rfl) rfl rfl rfl ?_ | refine fp3 (.inl rfl) rfl rfl rfl rfl ?_ | refine fp0 (.inr rfl) rfl ?_ | refine fp0 (.inl rfl) rfl ?_ | refine fp1 (.inr rfl) rfl rfl ?_); refine ⟨?_, by (first | exact Frm.refl _ | assumption | exact Go.Sv.Sep.frm (by assumption) | (refine Frm.trans ?_ (by assumption); first | exact Frm.refl _ | assumption))⟩; (try simp only [realB, rv_true, Nat.reduceBEq, cond_true, cond_false, entG, real_lif, updGL])
        rfl
      done
end Go.Proofs.YtjpnhaaneaikbaaDoor

/-
  Package link: Scheme, percent escapes.
-/
set_option linter.unusedSimpArgs false
set_option linter.unusedVariables false
set_option linter.unnecessarySimpa false
namespace Go.Sv
open Go Go.RowKit
end Go.Sv
namespace Go.Proofs.YtjpnhaaneaikbaaDoor
open Go Go.Sv Go.RowKit

theorem stripR_len (l : List UInt8) : (stripR l).length ≤ 4 * l.length := by
  have h1 := encR_flat (stripN (runesN l))
  have h2 : (stripN (runesN l)).length ≤ (runesN l).length := by
    unfold stripN keepN cutT cutL
    refine Nat.le_trans (List.length_filter_le _ _) ?_
    rw [List.length_reverse]
    refine Nat.le_trans ((List.dropWhile_sublist _).length_le) ?_
    rw [List.length_reverse]
    exact (List.dropWhile_sublist _).length_le
  have h3 := runesN_len l
  unfold stripR; omega
theorem scheme2_ok (l : List UInt8) (hb : l.length ≤ 1073741824) (w : World) : PureC Tryd.prog 67 #[str l] w (.tuple #[str (lowR ((stripR l).take (schemeR (stripR l)).1)), .bool (schemeR (stripR l)).2]) := by
  refine enter (l := [str l]) Tryd.func67 rfl Tryd.ntmps67 (by kernel_rfl) rfl ?_
  refine sgo ?_
  refine wlpure (strip_ok l hb _) fun w1 hf1 => ?_
  have hl := stripR_len l
  generalize stripR l = s at *
  refine sgo ?_
  refine wlpure (scheme_ok s (by omega) _) fun w2 hf2 => ?_
  have hf := hf1.trans hf2
  have hle := schemeR_le s
  generalize schemeR s = m at *
  refine sgo ?_
  refine wlpure (lower_ok (s.take m.1) (by simp; omega) _) fun w3 hf3 => ?_
  have hf' := hf.trans hf3
  refine sgo ?_
  (first | refine fp1 (.inl rfl) rfl rfl ?_ | refine fp2 (.inl rfl) rfl rfl rfl ?_ | refine fp3 (.inl rfl) rfl rfl rfl rfl ?_ | refine fp0 (.inr rfl) rfl ?_ | refine fp0 (.inl rfl) rfl ?_ | refine fp1 (.inr rfl) rfl rfl ?_); refine ⟨?_, by (first | exact Frm.refl _ | assumption | exact Go.Sv.Sep.frm (by assumption) | (refine Frm.trans ?_ (by assumption); first | exact Frm.refl _ | assumption))⟩; (try simp only [realB, rv_true, Nat.reduceBEq, cond_true, cond_false, entG, real_lif, updGL])

/-- two hexadecimal digits ahead? -/
def codedR (l : List UInt8) (i : Nat) : Bool := decide (i + 2 < l.length) && hexR (at0 l (i + 1)) && hexR (at0 l (i + 2))































def codedS (t : List UInt8) : Bool := decide (1 < t.length) && hexR (at0 t 0) && hexR (at0 t 1)
def badB : List UInt8 := [34, 60, 62, 92, 94, 96, 123, 124, 125]
def escB (c : Nat) (coded : Bool) : Bool := decide (c ≤ 32) || decide (127 ≤ c) || decide (UInt8.ofNat c ∈ badB) || (decide (c = 37) && !coded)
def digs : List UInt8 := [48, 49, 50, 51, 52, 53, 54, 55, 56, 57, 65, 66, 67, 68, 69, 70]
def pct (c : Nat) : List UInt8 := [37, digs[c / 16]?.getD 0, digs[c % 16]?.getD 0]
def encC (c : Nat) (coded : Bool) : List UInt8 := if escB c coded then pct c else [UInt8.ofNat c]
def encL : List UInt8 → List UInt8
  | [] => []
  | c :: t => encC c.toNat (codedS t) ++ encL t
def encodeR (s : List UInt8) : List UInt8 := encL (mendR s)
end Go.Proofs.YtjpnhaaneaikbaaDoor

/-
  Package link: without percent escapes.
-/
set_option linter.unusedSimpArgs false
set_option linter.unusedVariables false
set_option linter.unnecessarySimpa false
namespace Go.Sv
open Go Go.RowKit
section
variable {P : Program} {σ : GE} {w0 : World} {d : Nat} {ty t e : TypeId} {pos : String} {af : Array Edge} {x : Operand} {zv v : Value} {bytes : Nat} {kk : IntKind} {a : Int} {K : Env → World → Prop}
end
end Go.Sv
namespace Go.Proofs.YtjpnhaaneaikbaaDoor
open Go Go.Sv Go.RowKit

def valN (c : Nat) : Nat := (valueR c).toNat
def decL : List UInt8 → List UInt8
  | [] => []
  | c :: t => if c = 37 ∧ codedS t = true then UInt8.ofNat (16 * valN (at0 t 0) + valN (at0 t 1)) :: decL (t.drop 2) else c :: decL t
termination_by l => l.length
decreasing_by
  · simp; omega
  · simp
def decodeR (s : List UInt8) : List UInt8 := mendR (decL (mendR s))
end Go.Proofs.YtjpnhaaneaikbaaDoor

/-
  Package sieveref12: Encode, Decode.
-/
set_option linter.unusedSimpArgs false
set_option linter.unusedVariables false
set_option linter.unnecessarySimpa false
namespace Go.Sv
open Go Go.RowKit
section
variable {P : Program} {n : Nat} {ds : Ctx} {ops : Array Oper} {Q : Exit → Ctx → Env → World → Prop} {rest : List Oper} {σ : GE} {w : World} {d : Nat} {ty t t' e : TypeId} {pos : String} {af : Array Edge} {x : Operand} {zv : Value} {bytes : Nat}
def enum (vs : List Value) (j : Nat) : List (Nat × Value) := (vs.zipIdx j).map fun p => (p.2, p.1)
theorem fill_enum : ∀ (vs : List Value) (j : Nat) (z : List Value), (∀ v ∈ vs, v.cells = #[v]) → j + vs.length ≤ z.length →
    Instr.fill (fun i => some (i * 1, 1)) z.toArray (enum vs j) = some (z.take j ++ vs ++ z.drop (j + vs.length)).toArray
  | [], j, z, _, _ => by simp [enum, Instr.fill]
  | v :: vs, j, z, hv, hj => by
    have h1 := hv v List.mem_cons_self
    simp only [List.length_cons] at hj
    have ih := fill_enum vs (j + 1) (z.set j v) (fun u hu => hv u (List.mem_cons_of_mem _ hu)) (by simp; omega)
    simp only [enum, List.zipIdx_cons, List.map_cons, Instr.fill]
    rw [h1]
    simp only [List.size_toArray, List.length_cons, List.length_nil, Nat.mul_one]
    rw [if_neg (by simp; omega)]
    have e : (#[v] : Array Value).zipIdx.foldl (fun cs (x : Value × Nat) => match x with | (c, k) => cs.setIfInBounds (j + k) c) z.toArray = (z.set j v).toArray := by
      simp
    rw [e]
    rw [enum] at ih
    simp only [Nat.mul_one] at ih
    rw [ih]
    congr 2
    have hjl : j < z.length := by omega
    rw [List.take_succ_eq_append_getElem (by simpa using hjl), List.take_set_of_le (Nat.le_refl _), List.drop_set_of_lt (by omega)]
    simp only [List.getElem_set_self, List.append_assoc, List.cons_append, List.nil_append, List.length_cons]
    rw [show j + 1 + vs.length = j + (vs.length + 1) from by omega]
end
end Go.Sv
namespace Go.Proofs.YtjpnhaaneaikbaaDoor
open Go Go.Sv Go.RowKit

end Go.Proofs.YtjpnhaaneaikbaaDoor

/-
  Slices written out of elements of many cells; regions that draw their order, by an invariant of the whole state.
-/
set_option linter.unusedSimpArgs false
set_option linter.unusedVariables false
set_option linter.unnecessarySimpa false
namespace Go.Sv
open Go Go.RowKit
section
variable {P : Program} {n : Nat} {ds : Ctx} {ops : Array Oper} {Q : Exit → Ctx → Env → World → Prop} {rest : List Oper} {σ : GE} {w : World} {d : Nat} {ty t t' e : TypeId} {pos : String} {af : Array Edge} {x : Operand} {zv : Value} {size bytes : Nat}
end

/-! ## Regions that draw their order, by an invariant -/
def fwdB (ops : Array Oper) : Bool := (List.range ops.size).all fun j => match ops[j]? with
  | some o => o.after.all fun e => !Region.binds .any e || decide (e.on < j)
  | none => true
/-- what comes of an operation, whatever it yields -/
def comes (P : Program) (T : Value → World → Prop) : Result Next → Prop
  | .ok (.value u) w' => T u w'
  | .ok .skip w' => T undef w'
  | .ok (.enter f args) w' => Calls P f args w' (fun e w'' => ∃ v, e = .returned v ∧ T v w'')
  | _ => False
def StepI (P : Program) (ops : Array Oper) (S : (Nat → Bool) → Env → World → Prop) (k : Nat) (o : Oper) : Prop := ∀ L σ w, Up ops o k L → S L σ w →
  (Region.wanted o (yl ops σ) = true ∧ comes P (fun v w' => S (on L k) (updO σ o.dst v) w') ((execOp (evl σ) o).run P w)) ∨ (Region.wanted o (yl ops σ) = false ∧ S (on L k) (updO σ o.dst undef) w)
def StepsI (P : Program) (ops : Array Oper) (S : (Nat → Bool) → Env → World → Prop) : Nat → List Oper → Prop
  | _, [] => True
  | k, o :: l => StepI P ops S k o ∧ StepsI P ops S (k + 1) l
section
variable {P : Program} {n : Nat} {ds : Ctx} {Q : Exit → Ctx → Env → World → Prop} {S : (Nat → Bool) → Env → World → Prop} {σ : Env} {w : World}
end
end Go.Sv

/-
  Packages names and sieveref04: which names are in the set of void elements; texts parted by blanks.
-/
set_option linter.unusedSimpArgs false
set_option linter.unusedVariables false
set_option linter.unnecessarySimpa false
namespace Go.Proofs.YtjpnhaaneaikbaaDoor
open Go Go.Sv Go.RowKit

def strs (l : List (List UInt8)) : List Value := l.map fun s => str s
theorem strs_len (l : List (List UInt8)) : (strs l).length = l.length := by simp [strs]
theorem strs_at {l : List (List UInt8)} {i : Nat} {x : List UInt8} (h : l[i]? = some x) : (strs l)[i]? = some (str x) := by simp [strs, h]
theorem strs_app (l m : List (List UInt8)) : strs (l ++ m) = strs l ++ strs m := by simp [strs]
theorem strs_snoc (l : List (List UInt8)) (x : List UInt8) : strs l ++ [str x] = strs (l ++ [x]) := (strs_app l [x]).symm
/-- the table of blanks holds what its initialiser lays -/
def Asc (w : World) : Prop := Lib.TabIs Tryd.prog w "strings.asciiSpace" .u8 Lib.asciiSpaceTab












/-! ## sieveref04: Fields -/
def blkR (c : UInt8) : Bool := decide (c = 9 ∨ c = 10 ∨ c = 12 ∨ c = 32)
def fgo : List UInt8 → List UInt8 → List (List UInt8)
  | cur, [] => if cur = [] then [] else [cur]
  | cur, b :: l => if blkR b then (if cur = [] then fgo [] l else cur :: fgo [] l) else fgo (cur ++ [b]) l
def fieldsR (s : List UInt8) : List (List UInt8) := fgo [] s

















/-! ## the sets -/
def voidL : List (List UInt8) := fieldsR [97, 114, 101, 97, 32, 98, 97, 115, 101, 32, 98, 114, 32, 99, 111, 108, 32, 101, 109, 98, 101, 100, 32, 104, 114, 32, 105, 109, 103, 32, 105, 110, 112, 117, 116, 32, 108, 105, 110, 107, 32, 109, 101, 116, 97, 32, 115, 111, 117, 114, 99, 101, 32, 116, 114, 97, 99, 107, 32, 119, 98, 114]
def voidT : List UInt8 := [97, 114, 101, 97, 32, 98, 97, 115, 101, 32, 98, 114, 32, 99, 111, 108, 32, 101, 109, 98, 101, 100, 32, 104, 114, 32, 105, 109, 103, 32, 105, 110, 112, 117, 116, 32, 108, 105, 110, 107, 32, 109, 101, 116, 97, 32, 115, 111, 117, 114, 99, 101, 32, 116, 114, 97, 99, 107, 32, 119, 98, 114]
/-- is a name a void element's? -/
def voidR (n : List UInt8) : Bool := decide (n ∈ voidL)
end Go.Proofs.YtjpnhaaneaikbaaDoor

/-
  Package value: words, digits.
-/
set_option linter.unusedSimpArgs false
set_option linter.unusedVariables false
set_option linter.unnecessarySimpa false
namespace Go.Proofs.YtjpnhaaneaikbaaDoor
open Go Go.Sv Go.RowKit

theorem fgo_sp : ∀ (v cur : List UInt8), fgo cur (v ++ [32]) = fgo cur v
  | [], cur => by
    rw [List.nil_append]
    show (if blkR 32 = true then (if cur = [] then fgo [] [] else cur :: fgo [] []) else fgo (cur ++ [32]) []) = (if cur = [] then [] else [cur])
    rw [if_pos (by decide)]
    simp only [fgo, if_true]
  | b :: v, cur => by
    rw [List.cons_append, fgo, fgo, fgo_sp v, fgo_sp v]
theorem fgo_nb : ∀ (x cur l : List UInt8), (∀ c ∈ x, blkR c = false) → fgo cur (x ++ l) = fgo (cur ++ x) l
  | [], cur, l, _ => by rw [List.nil_append, List.append_nil]
  | b :: x, cur, l, h => by
    rw [List.cons_append, fgo, if_neg (by simp [h b (by simp)]), fgo_nb x _ _ fun c hc => h c (List.mem_cons_of_mem _ hc), List.append_assoc]
    rfl
/-- one rune of a right text: is it a blank, and its bytes -/
theorem blk_piece {l : List UInt8} (h0 : 0 < l.length) (hr : Right l) : ((pieceR l).1.toNat = 9 ∨ (pieceR l).1.toNat = 10 ∨ (pieceR l).1.toNat = 12 ∨ (pieceR l).1.toNat = 32) ∧ (pieceR l).2.1 = 1 ∧ (∃ b r, l = b :: r ∧ blkR b = true) ∨
    ¬ ((pieceR l).1.toNat = 9 ∨ (pieceR l).1.toNat = 10 ∨ (pieceR l).1.toNat = 12 ∨ (pieceR l).1.toNat = 32) ∧ ∀ c ∈ l.take (pieceR l).2.1, blkR c = false := by
  obtain ⟨r, g1, g2, g3, g4, g5, g6⟩ := enc_right l h0 hr
  rw [g1, Int.toNat_natCast]
  have blk : ∀ c : UInt8, blkR c = true ↔ (c.toNat = 9 ∨ c.toNat = 10 ∨ c.toNat = 12 ∨ c.toNat = 32) := by
    intro c
    unfold blkR
    rw [decide_eq_true_eq]
    simp only [← UInt8.toNat_inj, show UInt8.toNat 9 = 9 from rfl, show UInt8.toNat 10 = 10 from rfl, show UInt8.toNat 12 = 12 from rfl, show UInt8.toNat 32 = 32 from rfl]
  cases l with
  | nil => simp at h0
  | cons b l =>
    rcases Nat.lt_or_ge r 128 with h | h
    · obtain ⟨k1, k2⟩ := g5 h
      have hb : b.toNat = r := by simpa [at0] using k2
      by_cases hbl : r = 9 ∨ r = 10 ∨ r = 12 ∨ r = 32
      · exact .inl ⟨hbl, k1, b, l, rfl, (blk b).2 (by rw [hb]; exact hbl)⟩
      · refine .inr ⟨hbl, fun c hc => ?_⟩
        rw [k1] at hc
        simp only [List.take_succ_cons, List.take_zero, List.mem_singleton] at hc
        subst hc
        cases h' : blkR c with
        | false => rfl
        | true => exact absurd (by rw [← hb]; exact (blk c).1 h') hbl
    · refine .inr ⟨by omega, fun c hc => ?_⟩
      obtain ⟨k, hk, rfl⟩ := List.mem_iff_getElem.1 hc
      have hk' : k < (pieceR (b :: l)).2.1 := by rw [List.length_take] at hk; omega
      have h128 := g6 h k hk'
      have hkl : k < (b :: l).length := by rw [List.length_take] at hk; omega
      have e : at0 (b :: l) k = ((b :: l).take (pieceR (b :: l)).2.1)[k].toNat := by
        unfold at0
        rw [List.getElem?_eq_getElem hkl, List.getElem_take]; rfl
      rw [e] at h128
      cases h' : blkR ((b :: l).take (pieceR (b :: l)).2.1)[k] with
      | false => rfl
      | true =>
        have := (blk _).1 h'
        omega
set_option maxHeartbeats 2000000 in
theorem words_ok (v : List UInt8) (hv0 : validR v = true) (hb : v.length ≤ 100000000) (w : World) :
    CallsR Tryd.prog 23 #[str v] w fun r w' => ∃ q c, r = .slice q (fieldsR v).length c ∧ Sep w w' [pRow 1 q (fieldsR v).length c (strs (fieldsR v))] := by
  have hv1 : validR (v ++ [32]) = true := valid_app hv0 (valid_one 32 (by decide))
  have hS := Sep.start w
  have hfs : fieldsR v = fgo [] (v ++ [32]) := (fgo_sp v []).symm
  rw [hfs]
  refine enter (l := [str v]) Tryd.func23 rfl Tryd.ntmps23 (by kernel_rfl) rfl ?_
  generalize ht : v ++ [32] = t at *
  have hlt : t.length = v.length + 1 := by rw [← ht]; simp
  refine sgo ?_
  rw [ht]
  refine wlrange fun r w6 hr6 hI6 hf6 => ?_
  replace hS := (hS.pushIt hf6 hI6 hr6).nilRow 1
  clear hI6 hf6 hr6
  refine sgo ?_
  refine wcutj (X := Option Addr × Nat) (fun x => [(3, .slice x.1 (fgo [] t).length x.2)]) (fun x w' => Sep w w' [pRow 1 x.1 (fgo [] t).length x.2 (strs (fgo [] t))]) ?_ ?_
  · refine wcloop (X := Nat × Option Nat × List (List UInt8) × Option Addr × Nat) (fun x => [(0, str v), (3, .slice x.2.2.2.1 x.2.2.1.length x.2.2.2.2), (4, int (match x.2.1 with | none => -1 | some a => (a : Int))), (10, .pointer (pb r))])
      (fun x w' => x.1 ≤ t.length ∧ x.2.2.1.length ≤ x.1 ∧ validR (t.drop x.1) = true ∧ (match x.2.1 with | none => x.2.2.1 ++ fgo [] (t.drop x.1) = fgo [] t | some a => a < x.1 ∧ x.1 ≤ v.length ∧ x.2.2.1 ++ fgo ((t.drop a).take (x.1 - a)) (t.drop x.1) = fgo [] t) ∧
        Sep w w' [pRow 1 x.2.2.2.1 x.2.2.1.length x.2.2.2.2 (strs x.2.2.1), pIt r t x.1]) (fun x => t.length - x.1) (0, none, [], none, 0) ⟨rfl, rfl, rfl, rfl, trivial⟩ ⟨Nat.zero_le _, Nat.zero_le _, hv1, rfl, hS⟩ ?_
    clear hS
    rintro ⟨i, from_, out, q, c⟩ wr ρ ⟨hil, hol, hv, hinv, hS⟩
    dsimp only at hil hol hv hinv hS ⊢
    have hIt := hS.it 1 rfl
    iterate 2 (first | (show WL _ _ _ _ _ _ _ _; (first | refine wlp ?_ | refine WL_nil ?_ | (show WL _ _ _ _ _ (Go.Oper.mk _ _ _ _ _ none :: _) _ _; first | refine wlpk ?_ | refine wl_load ?_ | refine wl_idxa ?_ | refine wl_fld ?_ | refine wl_idx ?_ | refine wl_len ?_ | refine wl_bin ?_ | refine wl_cnv ?_ | refine wl_slc ?_ | refine wl_una ?_ | refine wl_nilc ?_ | refine wl_mkf ?_) | refine wlpg ?_ | refine wlg_load ?_ | refine wlg_idxa ?_ | refine wlg_fld ?_ | refine wlg_idx ?_ | refine wlg_len ?_ | refine wlg_bin ?_ | refine wlg_cnv ?_ | refine wlg_slc ?_ | refine wlg_una ?_ | refine wlg_nilc ?_ | refine wlg_mkf ?_)) | (show thn _ _ _ _ _ _; (first | refine thn_normal ?_ | refine thn_ret ?_ | refine thn_exit ?_)) | (show thl _ _ _ _ _ _ _; (first | refine thl_normal ?_ | refine thl_ret ?_ | refine thl_exit ?_)) | (show WC _ _ _ _ _ _ _; (first | refine WC_seq ?_ | refine WC_region ?_ | refine WC_ret ?_ | refine WC_skip ?_ | refine WC_block ?_ | refine WC_exit ?_ | refine WC_label ?_ | refine WC_scope rfl ?_ | refine wcyes ?_ | refine wcno ?_)) | (show blk _ _ _ _ _ _; (first | refine blk_ret ?_ | refine blk_here ?_ | refine blk_on rfl ?_ | refine blk_normal ?_)) | (show ngt _ _ _ _ _; (first | refine ngt_normal ?_ | refine ngt_ret ?_ | refine ngt_exit ?_)))
    by_cases hi : i < t.length
    · have hpos : 0 < (t.drop i).length := by simp; omega
      obtain ⟨hr, hv2⟩ := valid_step (t.drop i) hpos hv
      obtain ⟨x, hx, hgx⟩ := pieceR_good (t.drop i) hpos
      have hpr := pieceR_rng (t.drop i) hpos
      have hdl : (t.drop i).length = t.length - i := by simp
      have hblk := blk_piece hpos hr
      rw [List.drop_drop] at hv2
      rw [hx, Int.toNat_natCast] at hblk
      refine wlnext_yes hIt hi fun w7 hI7 hl7 => ?_
      rw [decode_right t i hr, hx, Int.toNat_natCast] at hI7 ⊢
      dsimp only at hI7 ⊢
      generalize (pieceR (t.drop i)).2.1 = m at *
      replace hS := hS.nextIt 1 rfl hl7 hI7
      replace hS : Sep w w7 [pRow 1 q out.length c (strs out), pIt r t (i + m)] := hS
      clear hIt hI7 hl7
      refine sgo ?_
      have hB : pkb (pkb (pkb (decide ((x : Int) = 9)) true (decide ((x : Int) = 10))) true (decide ((x : Int) = 12))) true (decide ((x : Int) = 32)) = decide (x = 9 ∨ x = 10 ∨ x = 12 ∨ x = 32) := by
        rw [Bool.eq_iff_iff]
        simp only [pkb_or, Bool.or_eq_true, decide_eq_true_eq]
        omega
      rw [hB]
      rcases hblk with ⟨hb1, rfl, b, rest, hbr, hbb⟩ | ⟨hb1, hnb⟩
      · rw [decide_eq_true hb1]
        have hrest : rest = t.drop (i + 1) := by rw [← List.drop_drop, hbr]; rfl
        have hilv : i ≤ v.length := by omega
        rw [hbr] at hinv
        cases from_ with
        | none =>
          dsimp only at hinv ⊢
          rw [fgo, if_pos hbb, if_pos rfl, hrest] at hinv
          refine wcno ?_ (ht := by decide)
          refine sgo ?_
          refine ⟨(i + 1, none, out, q, c), ⟨rfl, rfl, rfl, rfl, trivial⟩, ⟨by dsimp only; omega, by dsimp only; omega, hv2, hinv, hS⟩, by dsimp only; omega⟩
        | some a =>
          dsimp only at hinv ⊢
          obtain ⟨ha, -, hinv⟩ := hinv
          have hne : (t.drop a).take (i - a) ≠ [] := by
            intro h; have := congrArg List.length h; simp at this; omega
          rw [fgo, if_pos hbb, if_neg hne, hrest] at hinv
          have hcut : (t.drop a).take (i - a) = (v.drop a).take (i - a) := by
            rw [← ht, List.drop_append_of_le_length (by omega), List.take_append_of_le_length (by rw [List.length_drop]; omega)]
          rw [hcut] at hinv
          clear hcut hne hB
          refine wcyes ?_ (ht := by simp [pkb])
          refine sgo ?_
          refine sb1s hS fun b2 w8 hS => ?_
          refine sgo ?_
          refine sapp hS 1 (hS.own 0 rfl).sg fun q' c' w9 hS => ?_
          replace hS := hS.tail
          rw [strs_snoc] at hS
          have hn : out.length + 1 = (out ++ [List.take (i - a) (List.drop a v)]).length := by simp
          rw [hn] at hS ⊢
          refine sgo ?_
          refine ⟨(i + 1, none, out ++ [(v.drop a).take (i - a)], q', c'), ⟨rfl, rfl, rfl, rfl, trivial⟩, ⟨by dsimp only; omega, by dsimp only; simp; omega, hv2, by dsimp only; rw [← hinv]; simp, hS⟩, by dsimp only; omega⟩
      · rw [decide_eq_false hb1]
        have hsplit : t.drop i = (t.drop i).take m ++ t.drop (i + m) := by rw [← List.drop_drop, List.take_append_drop]
        rw [hsplit] at hinv
        have hvi : i + m ≤ v.length := by
          apply Decidable.byContradiction
          intro hcon
          have hmem : (32 : UInt8) ∈ (t.drop i).take m := by
            apply List.mem_of_getElem? (i := v.length - i)
            rw [List.getElem?_take_of_lt (by omega), List.getElem?_drop, show i + (v.length - i) = v.length by omega, ← ht, List.getElem?_append_right (Nat.le_refl _), Nat.sub_self]
            rfl
          exact absurd (hnb 32 hmem) (by decide)
        cases from_ with
        | none =>
          dsimp only at hinv ⊢
          rw [fgo_nb _ _ _ hnb, List.nil_append] at hinv
          refine wcno ?_ (ht := by decide)
          refine sgo ?_
          refine ⟨(i + m, some i, out, q, c), ⟨rfl, rfl, rfl, rfl, trivial⟩, ⟨by dsimp only; omega, by dsimp only; omega, hv2, ⟨by dsimp only; omega, hvi, by dsimp only; rw [Nat.add_sub_cancel_left]; exact hinv⟩, hS⟩, by dsimp only; omega⟩
        | some a =>
          dsimp only at hinv ⊢
          obtain ⟨ha, hiv, hinv⟩ := hinv
          rw [fgo_nb _ _ _ hnb] at hinv
          have hcat : (t.drop a).take (i - a) ++ (t.drop i).take m = (t.drop a).take (i + m - a) := by
            rw [show i + m - a = (i - a) + m by omega, List.take_add, List.drop_drop, show a + (i - a) = i by omega]
          rw [hcat] at hinv
          refine wcno ?_ (ht := by rfl)
          refine sgo ?_
          refine wcno ?_ (ht := by simp [pkb])
          refine sgo ?_
          refine ⟨(i + m, some a, out, q, c), ⟨rfl, rfl, rfl, rfl, trivial⟩, ⟨by dsimp only; omega, by dsimp only; omega, hv2, ⟨by dsimp only; omega, hvi, hinv⟩, hS⟩, by dsimp only; omega⟩
    · obtain rfl : i = t.length := by omega
      refine wlnext_no hIt (by omega) ?_
      refine sgo ?_
      cases from_ with
      | some a => dsimp only at hinv; omega
      | none =>
        dsimp only at hinv
        rw [List.drop_length] at hinv
        rw [← hinv]
        simp only [fgo, if_true, List.append_nil]
        exact ⟨(q, c), ⟨rfl, trivial⟩, hS.sub (List.Sublist.cons_cons _ (List.nil_sublist _))⟩
  · clear hS
    rintro ⟨q, c⟩ w7 ρ hS
    dsimp only at hS ⊢
    refine sgo ?_
    (first | refine fp1 (.inl rfl) rfl rfl ?_ | refine fp2 (.inl rfl) rfl rfl rfl ?_ | refine fp3 (.inl rfl) rfl rfl rfl rfl ?_ | refine fp0 (.inr rfl) rfl ?_ | refine fp0 (.inl rfl) rfl ?_ | refine fp1 (.inr rfl) rfl rfl ?_)
    exact ⟨q, c, rfl, hS⟩
end Go.Proofs.YtjpnhaaneaikbaaDoor

/-
  Packages value and sieveref13: Tokens, Number.
-/
set_option linter.unusedSimpArgs false
set_option linter.unusedVariables false
set_option linter.unnecessarySimpa false
namespace Go.Proofs.YtjpnhaaneaikbaaDoor
open Go Go.Sv Go.RowKit

def numG : List UInt8 → Nat → Option Nat
  | [], n => some n
  | c :: l, n => if digitR c.toNat = true then numG l (10 * n + (c.toNat - 48)) else none
/-- one to nine digits -/
def numR (v : List UInt8) : Option Nat := if v.length < 1 ∨ 9 < v.length then none else numG v 0
def numV : Option Nat → Value
  | some n => .tuple #[int n, .bool true]
  | none => .tuple #[int (0 : Nat), .bool false]
theorem vDigit_ok (c : Nat) (w : World) : PureC Tryd.prog 35 #[byt c] w (.bool (digitR c)) := by
  refine enter (l := [byt c]) Tryd.func35 rfl Tryd.ntmps35 (by kernel_rfl) rfl ?_
  refine sgo ?_
  (first | refine fp1 (.inl rfl) rfl rfl ?_ | refine fp2 (.inl rfl) rfl rfl rfl ?_ | refine fp3 (.inl rfl) rfl rfl rfl rfl ?_ | refine fp0 (.inr rfl) rfl ?_ | refine fp0 (.inl rfl) rfl ?_ | refine fp1 (.inr rfl) rfl rfl ?_); refine ⟨?_, by (first | exact Frm.refl _ | assumption | exact Go.Sv.Sep.frm (by assumption) | (refine Frm.trans ?_ (by assumption); first | exact Frm.refl _ | assumption))⟩; (try simp only [realB, rv_true, Nat.reduceBEq, cond_true, cond_false, entG, real_lif, updGL])
  refine congrArg Value.bool ?_
  unfold digitR
  rw [Bool.eq_iff_iff]
  simp only [pkb_or, pkb_and, Bool.or_eq_true, Bool.and_eq_true, decide_eq_true_eq]
  omega
theorem numG_step {v : List UInt8} {i n : Nat} (hi : i < v.length) : numG (v.drop i) n = if digitR (v[i]?.getD 0).toNat = true then numG (v.drop (i + 1)) (10 * n + ((v[i]?.getD 0).toNat - 48)) else none := by
  rw [List.drop_eq_getElem_cons hi, numG, List.getElem?_eq_getElem hi]
  rfl
theorem digit_rng {c : Nat} (h : digitR c = true) : 48 ≤ c ∧ c ≤ 57 := by
  simp only [digitR, Bool.and_eq_true, decide_eq_true_eq] at h
  exact h
set_option maxHeartbeats 1000000 in
theorem digits_ok (v : List UInt8) (hb : v.length ≤ 1073741824) (w : World) : PureC Tryd.prog 26 #[str v] w (numV (numR v)) := by
  refine enter (l := [str v]) Tryd.func26 rfl Tryd.ntmps26 (by kernel_rfl) rfl ?_
  unfold numR
  refine sgo ?_
  refine WC_cond rfl (fun hc => ?_) (fun hc => ?_)
  · simp only [pkb_or, Bool.or_eq_true, decide_eq_true_eq] at hc
    rw [if_pos (by omega)]
    refine sgo ?_
    (first | refine fp1 (.inl rfl) rfl rfl ?_ | refine fp2 (.inl rfl) rfl rfl rfl ?_ | refine fp3 (.inl rfl) rfl rfl rfl rfl ?_ | refine fp0 (.inr rfl) rfl ?_ | refine fp0 (.inl rfl) rfl ?_ | refine fp1 (.inr rfl) rfl rfl ?_); refine ⟨?_, by (first | exact Frm.refl _ | assumption | exact Go.Sv.Sep.frm (by assumption) | (refine Frm.trans ?_ (by assumption); first | exact Frm.refl _ | assumption))⟩; (try simp only [realB, rv_true, Nat.reduceBEq, cond_true, cond_false, entG, real_lif, updGL])
    rfl
  simp only [pkb_or, Bool.or_eq_false_iff, decide_eq_false_iff_not] at hc
  rw [if_neg (by omega)]
  have h9 : v.length ≤ 9 := by omega
  clear hc
  refine sgo ?_
  refine wcloop (X := Nat × Nat) (fun x => [(0, str v), (4, int x.2), (15, int v.length), (16, int x.1)])
    (fun x w' => x.1 ≤ v.length ∧ x.2 < 10 ^ x.1 ∧ numG (v.drop x.1) x.2 = numG v 0 ∧ Frm w w') (fun x => v.length - x.1) (0, 0) ⟨rfl, rfl, rfl, rfl, trivial⟩ ⟨Nat.zero_le _, by decide, rfl, Frm.refl w⟩ ?_
  rintro ⟨i, n⟩ wr ρ ⟨hil, hn, hg, hf⟩
  dsimp only at hil hn hg ⊢
  refine sgo ?_
  (show WC _ _ _ _ _ _ _; first | refine WC_dec rfl (fun hc => ?_) (fun hc => ?_) | refine WC_cond rfl (fun hc => ?_) (fun hc => ?_))
  · have hlt : i < v.length := by omega
    have h10 : (10 : Nat) ^ i ≤ 10 ^ 8 := Nat.pow_le_pow_right (by decide) (by omega)
    have hnb : n < 100000000 := by omega
    rw [numG_step hlt] at hg
    have hc8 : (v[i]?.getD 0).toNat < 256 := UInt8.toNat_lt _
    clear hc
    refine sgo ?_
    refine wlpure (vDigit_ok _ _) fun w1 hf1 => ?_
    replace hf := hf.trans hf1
    clear hf1
    refine sgo ?_
    refine WC_cond rfl (fun hc => ?_) (fun hc => ?_)
    · have hd : digitR (v[i]?.getD 0).toNat = false := by simpa using hc
      rw [hd, if_neg (by decide)] at hg
      refine sgo ?_
      (first | refine fp1 (.inl rfl) rfl rfl ?_ | refine fp2 (.inl rfl) rfl rfl rfl ?_ | refine fp3 (.inl rfl) rfl rfl rfl rfl ?_ | refine fp0 (.inr rfl) rfl ?_ | refine fp0 (.inl rfl) rfl ?_ | refine fp1 (.inr rfl) rfl rfl ?_); refine ⟨?_, by (first | exact Frm.refl _ | assumption | exact Go.Sv.Sep.frm (by assumption) | (refine Frm.trans ?_ (by assumption); first | exact Frm.refl _ | assumption))⟩; (try simp only [realB, rv_true, Nat.reduceBEq, cond_true, cond_false, entG, real_lif, updGL])
      rw [← hg]; rfl
    · have hd : digitR (v[i]?.getD 0).toNat = true := by simpa using hc
      rw [hd, if_pos rfl] at hg
      have hrg := digit_rng hd
      clear hc hd
      refine sgo ?_
      refine ⟨(i + 1, 10 * n + ((v[i]?.getD 0).toNat - 48)), ⟨rfl, ?_, rfl, rfl, trivial⟩, ⟨by dsimp only; omega, ?_, hg, hf⟩, by dsimp only; omega⟩
      · show Value.int .i64 _ = .int .i64 _
        congr 1
        omega
      · dsimp only
        rw [Nat.pow_succ]
        omega
  · obtain rfl : i = v.length := by omega
    rw [List.drop_length, numG] at hg
    refine sgo ?_
    (first | refine fp1 (.inl rfl) rfl rfl ?_ | refine fp2 (.inl rfl) rfl rfl rfl ?_ | refine fp3 (.inl rfl) rfl rfl rfl rfl ?_ | refine fp0 (.inr rfl) rfl ?_ | refine fp0 (.inl rfl) rfl ?_ | refine fp1 (.inr rfl) rfl rfl ?_); refine ⟨?_, by (first | exact Frm.refl _ | assumption | exact Go.Sv.Sep.frm (by assumption) | (refine Frm.trans ?_ (by assumption); first | exact Frm.refl _ | assumption))⟩; (try simp only [realB, rv_true, Nat.reduceBEq, cond_true, cond_false, entG, real_lif, updGL])
    rw [← hg]; rfl

theorem number_ok (s : List UInt8) (hb : s.length ≤ 100000000) (w : World) : PureC Tryd.prog 11 #[str s] w (numV (numR (cleanR s))) := by
  have hl := cleanR_len s
  have hd := fun w => digits_ok (cleanR s) (by omega) w
  generalize hr : numR (cleanR s) = r at *
  refine enter (l := [str s]) Tryd.func11 rfl Tryd.ntmps11 (by kernel_rfl) rfl ?_
  refine sgo ?_
  refine wlpure (inClean_ok s (by omega) _) fun w1 hf1 => ?_
  refine sgo ?_
  refine wlpure (hd _) fun w2 hf2 => ?_
  have hf := hf1.trans hf2
  clear hf1 hf2
  cases r with
  | none =>
    unfold numV
    refine sgo ?_
    (first | refine fp1 (.inl rfl) rfl rfl ?_ | refine fp2 (.inl rfl) rfl rfl rfl ?_ | refine fp3 (.inl rfl) rfl rfl rfl rfl ?_ | refine fp0 (.inr rfl) rfl ?_ | refine fp0 (.inl rfl) rfl ?_ | refine fp1 (.inr rfl) rfl rfl ?_); refine ⟨?_, by (first | exact Frm.refl _ | assumption | exact Go.Sv.Sep.frm (by assumption) | (refine Frm.trans ?_ (by assumption); first | exact Frm.refl _ | assumption))⟩; (try simp only [realB, rv_true, Nat.reduceBEq, cond_true, cond_false, entG, real_lif, updGL])
    all_goals rfl
  | some n =>
    unfold numV
    refine sgo ?_
    (first | refine fp1 (.inl rfl) rfl rfl ?_ | refine fp2 (.inl rfl) rfl rfl rfl ?_ | refine fp3 (.inl rfl) rfl rfl rfl rfl ?_ | refine fp0 (.inr rfl) rfl ?_ | refine fp0 (.inl rfl) rfl ?_ | refine fp1 (.inr rfl) rfl rfl ?_); refine ⟨?_, by (first | exact Frm.refl _ | assumption | exact Go.Sv.Sep.frm (by assumption) | (refine Frm.trans ?_ (by assumption); first | exact Frm.refl _ | assumption))⟩; (try simp only [realB, rv_true, Nat.reduceBEq, cond_true, cond_false, entG, real_lif, updGL])
    all_goals rfl
end Go.Proofs.YtjpnhaaneaikbaaDoor

/-
  Arrays written out; calls of function values in regions that draw.
-/
set_option linter.unusedSimpArgs false
set_option linter.unusedVariables false
set_option linter.unnecessarySimpa false
namespace Go.Sv
open Go Go.RowKit
section
variable {P : Program} {n : Nat} {ds : Ctx} {ops : Array Oper} {Q : Exit → Ctx → Env → World → Prop} {C : World → Prop} {QE : Env → Prop} {rest : List Oper} {σ : GE} {w : World} {v : Value} {d : Nat} {ty t e : TypeId} {pos : String} {af : Array Edge} {x : Operand} {xs : List Operand} {ats : Array TypeId} {zv : Value} {zs : List Value} {bytes bytes' k : Nat}
theorem YQ.ofFv {σ : Env} {d : Option Tmp} {g : Option (Nat × Bool)} {f : FuncId} [hf : Fnc P f] {first cap args : List Value} (hx : evl σ x = .func (.func f) ⟨first⟩ ⟨cap⟩) (ha : xs.map (evl σ) = args)
    (h : ∀ w, C w → CallsR P f (first ++ args ++ cap).toArray w fun u w' => u = v ∧ Frm w w') : YQ P σ ⟨d, .call ⟨.value x, xs.toArray, ats⟩, ty, pos, af, g⟩ C v := by
  unfold YQ
  intro w hw
  rw [run_call_fv hx ha]
  refine ⟨rfl, Calls.mono (h w hw) ?_⟩
  rintro e w' ⟨u, rfl, rfl, hC⟩
  exact ⟨rfl, hC⟩
theorem qlcallv {f : FuncId} [hf : Fnc P f] {first cap args : List Value} (hc : ∀ w, C w → PureC P f (first ++ args ++ cap).toArray w v) (h : QL P n ds ops C QE rest (real (updG σ d ⟨v, true⟩)))
    (hx : evl (real σ) x = .func (.func f) ⟨first⟩ ⟨cap⟩ := by rfl) (ha : xs.map (evl (real σ)) = args := by first | rfl | exact am1 rfl | exact am2 rfl rfl) :
    QL P n ds ops C QE (⟨some d, .call ⟨.value x, xs.toArray, ats⟩, ty, pos, af, none⟩ :: rest) (real σ) :=
  ql h (YQ.ofFv hx ha fun w hw => (hc w hw))
theorem y_arr {σ : Env} {d : Option Tmp} {g : Option (Nat × Bool)} {ps : List (Nat × Operand)} [hu : Und P t (.array k e)] [hi : Inf P e zv 1 bytes] [hj : Inf P t (.agg ⟨zs⟩) k bytes'] (vs : List Value)
    (hps : ps.map (fun p => (p.1, evl σ p.2)) = enum vs 0) (hk : vs.length = k) (hz : zs.length = k) (h1 : ∀ v ∈ vs, v.cells = #[v]) :
    Y P σ ⟨d, .build t ps.toArray, ty, pos, af, g⟩ w (.agg ⟨vs⟩) w := by
  refine Y.val ?_
  have hf := fill_enum vs 0 zs h1 (by omega)
  have hpa : (ps.toArray.map fun (x : Nat × Operand) => match x with | (i, x) => (i, evl σ x)).toList = enum vs 0 := by rw [← hps]; simp
  simp only [execOp, Instr.build, Sem.run_bind, run_zeroValue (P := P) (t := t), Result.andThen_ok, underlying, run_program, hu.ok, Sem.run_pure, run_sizeOf (P := P) (t := e), Value.cells]
  rw [hpa]
  simp only [Nat.mul_one] at hf ⊢
  rw [hf]
  rw [List.take_zero, List.nil_append, List.drop_eq_nil_of_le (by omega), List.append_nil]
  rfl
end
end Go.Sv

/-
  Package names: the sets' names.
-/
set_option linter.unusedSimpArgs false
set_option linter.unusedVariables false
set_option linter.unnecessarySimpa false
namespace Go.Proofs.YtjpnhaaneaikbaaDoor
open Go Go.Sv Go.RowKit




















end Go.Proofs.YtjpnhaaneaikbaaDoor

/-
  Packages names and sieveref04: In, of the void elements.
-/
set_option linter.unusedSimpArgs false
set_option linter.unusedVariables false
set_option linter.unnecessarySimpa false
namespace Go.Proofs.YtjpnhaaneaikbaaDoor
open Go Go.Sv Go.RowKit











end Go.Proofs.YtjpnhaaneaikbaaDoor

/-
  Packages event and sieveref18: which events may be.
-/
set_option linter.unusedSimpArgs false
set_option linter.unusedVariables false
set_option linter.unnecessarySimpa false
namespace Go.Sv
open Go Go.RowKit
section
variable {P : Program} {n : Nat} {ds : Ctx} {ops : Array Oper} {Q : Exit → Ctx → Env → World → Prop} {rest : List Oper} {σ : GE} {w : World} {d : Nat} {ty t : TypeId} {pos : String} {af : Array Edge} {zv : Value} {size bytes : Nat} {j dj : Nat} {want b c : Bool}
end
end Go.Sv
namespace Go.Proofs.YtjpnhaaneaikbaaDoor
open Go Go.Sv Go.RowKit

/-- may an event be? -/
def evR (e : Ev) : Bool :=
  if e.kind = 0 then !decide (e.text = []) && validR e.text && decide (e.name = []) && decide (e.attrs.length = 0)
  else if e.kind = 1 then decide (e.text = []) && mayR e.start && !voidR e.name
  else if e.kind = 3 then decide (e.text = []) && mayR e.start && voidR e.name
  else if e.kind = 2 then decide (e.text = []) && decide (e.attrs.length = 0) && mayR e.close
  else false





































































































































































































end Go.Proofs.YtjpnhaaneaikbaaDoor

/-
  How events nest: the plain part; the stack of names.
-/
set_option linter.unusedSimpArgs false
set_option linter.unusedVariables false
set_option linter.unnecessarySimpa false
namespace Go.Sv
open Go Go.RowKit
/-- a cut behind a piece of code -/
theorem wcutt {P : Program} {n : Nat} {ds : Ctx} {K : Ctx → Env → World → Prop} {Q : Exit → Ctx → Env → World → Prop} {σ : Env} {w : World} {a : Code} {X : Type} (sl : X → List (Nat × Value)) (I : X → World → Prop)
    (ha : WC P n ds a (thl ds (fun σ w => ∃ x, Has σ (sl x) ∧ I x w) Q) σ w) (hb : ∀ x w (ρ : GE), I x w → K ds (real (updGL ρ (sl x))) w) : WC P n ds a (thn K Q) σ w := by
  refine WC_mono ha ?_
  intro e c' σ' w' h
  unfold thl at h
  unfold thn
  cases e <;> try exact h
  obtain ⟨rfl, x, h1, h2⟩ := h
  have := hb x w' (lif σ') h2
  rw [← real_updL, updL_has h1] at this
  exact this
/-- two worlds that agree on the first B blocks -/
structure Same (B : Nat) (w w' : World) : Prop where
  os : w'.os = w.os
  tape : w'.tape = w.tape
  output : w'.output = w.output
  size : B ≤ w'.heap.size
  block : ∀ k, k < B → w'.heap[k]? = w.heap[k]?
theorem Same.frm {w w1 w2 : World} (h : Frm w w1) (h' : Same w.heap.size w1 w2) : Frm w w2 := ⟨h'.os.trans h.os, h'.tape.trans h.tape, h'.output.trans h.output, h'.size, fun k hk => (h'.block k hk).trans (h.block k hk)⟩
theorem Own.same {B : Nat} {w w' : World} {b : Nat} {l : List Value} (h : Own w b l) (hs : Same B w w') (hb : b < B) : Own w' b l := h.of_block (hs.block b hb)
end Go.Sv
namespace Go.Proofs.YtjpnhaaneaikbaaDoor
open Go Go.Sv Go.RowKit

/-! ## The plain part -/
structure Lk where
  stack : List (List UInt8)
  most : Nat
  at_ : Nat
  err : Int
  good : Nat
def lkStep (k : Lk) (e : Ev) : Lk :=
  if k.err = 0 then
    if evR e then
      if e.kind = 1 then ⟨k.stack ++ [e.name], max k.most (k.stack.length + 1), 0, 0, k.good + 1⟩
      else if e.kind = 3 then ⟨k.stack, max k.most (k.stack.length + 1), 0, 0, k.good + 1⟩
      else if e.kind = 2 then (if k.stack.getLast? = some e.name then ⟨k.stack.dropLast, k.most, 0, 0, k.good + 1⟩ else { k with at_ := k.good, err := 181 })
      else ⟨k.stack, k.most, 0, 0, k.good + 1⟩
    else { k with at_ := k.good, err := 180 }
  else k
def lk0 : Lk := ⟨[], 0, 0, 0, 0⟩
/-- how events nest -/
def lkR (l : List Ev) : Lk := l.foldl lkStep lk0
/-! ## A stack of names in memory -/
/-- a stack: where it lies, and its names -/
def pStk (b : Nat) (p : Option Addr) (c : Nat) (st : List (List UInt8)) : List Plot := [pOwn b [.slice p st.length c], pRow 1 p st.length c (strs st)]

































































end Go.Proofs.YtjpnhaaneaikbaaDoor

/-
  strings.Join (and Grow of a builder that has not been written).
-/
set_option linter.unusedSimpArgs false
set_option linter.unusedVariables false
set_option linter.unnecessarySimpa false
namespace Go.Sv
open Go Go.RowKit
section
variable {P : Program} {T E : TypeId} {w w' : World} {b : Nat} {q : Option Addr} {c : Nat} {s : List UInt8}
theorem y_cap {σ : Env} {d : Option Tmp} {ty t t' : TypeId} {pos : String} {af : Array Edge} {g : Option (Nat × Bool)} {x : Operand} {p : Option Addr} {m c : Nat} [hu : Und P t (.slice t')] (hx : evl σ x = .slice p m c) : Y P σ ⟨d, .call ⟨.builtin .cap, #[x], #[t]⟩, ty, pos, af, g⟩ w (int c) w := by
  refine Y.val ?_; simp only [execOp, resolve, Sem.run_bind, Sem.run_pure, Result.andThen_ok, invoke, builtin]
  simp [hx, Builtin.cap_, underlying, hu.ok, goInt]
theorem Bld.of_shelf {B : Nat} (h : Lib.BuilderAt T E B b (.pointer (pb b)) [] w) : ∃ q, Bld T E w b q [] ∧ ∀ k ∈ b :: rb q, B ≤ k := by
  obtain ⟨hB, v, hc, hr, hne⟩ := h
  have h0 : w.ownsRow 0 E 1 v 0 [] := by
    refine ⟨hr.1, ?_⟩
    rcases hr.2 with h1 | ⟨g, cap, cur, hv, h2, h3⟩
    · exact .inl h1
    · exact .inr ⟨g, cap, cur, hv, Nat.zero_le _, h3⟩
  obtain ⟨q, c, rfl⟩ : ∃ q c, v = .slice q 0 c := by
    rcases h0.2 with ⟨rfl, _⟩ | ⟨g, cap, cur, rfl, _⟩
    · exact ⟨_, _, rfl⟩
    · exact ⟨_, _, rfl⟩
  refine ⟨q, ⟨pb b, c, .inr rfl, hc, h0, fun hb => hne (rb_own.2 hb)⟩, fun k hk => ?_⟩
  rcases List.mem_cons.1 hk with rfl | hk
  · exact hB
  · exact (hr.lt k (rb_own.2 hk)).1
end
end Go.Sv
namespace Go.Proofs.YtjpnhaaneaikbaaDoor
open Go Go.Sv Go.RowKit

theorem grow_ok (b n : Nat) (w0 w : World) (hf : Frm w0 w) (hb : w0.heap.size ≤ b) (hn : n ≤ 1073741824) (h : BuP TB TY w b none none 0 []) :
    CallsR Tryd.prog 62 #[ptrAt (pb b) 0, int n] w fun _ w' => ∃ q, Bld TB TY w' b q [] ∧ (∀ k ∈ b :: rb q, w0.heap.size ≤ k) ∧ Frm w0 w' := by
  refine enter (l := [ptrAt (pb b) 0, int n]) Tryd.func62 rfl Tryd.ntmps62 (by kernel_rfl) rfl ?_
  refine sgo ?_
  refine wlcall (copyCheck_ok b none none 0 [] w h) ?_
  rintro v w1 ⟨rfl, h1, hl1⟩
  have ho : Own w1 b [.pointer (pb b), .slice none 0 0] := h1.own
  have hf1 : Frm w0 w1 := hf.step hl1 (by simpa using hb)
  refine sgo ?_
  refine wcno ?_ (ht := by simp)
  refine sgo ?_
  refine wcdraw ?_
  refine qgo ?_
  refine ql ?_ (YQ.ofY fun w hw => y_cap rfl)
  refine qgo ?_
  refine QL_nil ?_
  intro w2 hf2
  have hf3 := hf1.trans hf2
  have h2 : BuP TB TY w2 b (pb b) none 0 [] := h1.le (M := []) hf2.le (by simp) (by simp)
  refine sgo ?_
  (show WC _ _ _ _ _ _ _; first | refine WC_dec rfl (fun hc => ?_) (fun hc => ?_) | refine WC_cond rfl (fun hc => ?_) (fun hc => ?_))
  · refine sgo ?_
    refine wlcall (R := fun _ w' => ∃ q, Bld TB TY w' b q [] ∧ (∀ k ∈ b :: rb q, w0.heap.size ≤ k) ∧ Frm w0 w') ?_ ?_
    · refine Calls.mono (Tryd.Builder_grow_fresh w0.heap.size b n w2 hb h2.cell hf3.size (by omega)) ?_
      rintro e w3 ⟨rfl, hB, hf4⟩
      obtain ⟨q, hq1, hq2⟩ := Bld.of_shelf hB
      exact ⟨_, rfl, q, hq1, hq2, Below.trans hf3 hf4⟩
    rintro _ w3 ⟨q, hq1, hq2, hf4⟩
    refine sgo ?_
    (first | refine fp1 (.inl rfl) rfl rfl ?_ | refine fp2 (.inl rfl) rfl rfl rfl ?_ | refine fp3 (.inl rfl) rfl rfl rfl rfl ?_ | refine fp0 (.inr rfl) rfl ?_ | refine fp0 (.inl rfl) rfl ?_ | refine fp1 (.inr rfl) rfl rfl ?_)
    exact ⟨q, hq1, hq2, hf4⟩
  · refine sgo ?_
    (first | refine fp1 (.inl rfl) rfl rfl ?_ | refine fp2 (.inl rfl) rfl rfl rfl ?_ | refine fp3 (.inl rfl) rfl rfl rfl rfl ?_ | refine fp0 (.inr rfl) rfl ?_ | refine fp0 (.inl rfl) rfl ?_ | refine fp1 (.inr rfl) rfl rfl ?_)
    exact ⟨none, ⟨_, _, h2⟩, by intro k hk; simp [rb] at hk; omega, hf3⟩
/-- texts, put together -/
def joinR (sep : List UInt8) : List (List UInt8) → List UInt8
  | [] => []
  | x :: r => x ++ r.flatMap fun y => sep ++ y
def tlen (l : List (List UInt8)) : Nat := (l.map List.length).sum
theorem join_len (sep x : List UInt8) (r : List (List UInt8)) : (joinR sep (x :: r)).length = sep.length * r.length + tlen (x :: r) := by
  have : (r.flatMap fun y => sep ++ y).length = sep.length * r.length + tlen r := by
    induction r with
    | nil => simp [tlen]
    | cons y r ih => simp only [List.flatMap_cons, List.length_append, ih, tlen, List.map_cons, List.sum_cons, List.length_cons, Nat.mul_add, Nat.mul_one]; omega
  simp only [joinR, List.length_append, this, tlen, List.map_cons, List.sum_cons]; omega
theorem tlen_snoc {l : List (List UInt8)} {i : Nat} {x : List UInt8} (h : l[i]? = some x) : tlen (l.take (i + 1)) = tlen (l.take i) + x.length := by
  unfold tlen
  rw [List.take_add_one, h, List.map_append, List.sum_append]; simp
theorem tlen_take (l : List (List UInt8)) (i : Nat) : tlen (l.take i) ≤ tlen l := by
  have : tlen l = tlen (l.take i) + tlen (l.drop i) := by
    unfold tlen
    rw [← List.sum_append, ← List.map_append, List.take_append_drop]
  omega
theorem join_snoc {sep x : List UInt8} {r : List (List UInt8)} {i : Nat} {y : List UInt8} (h : r[i]? = some y) : joinR sep (x :: r.take (i + 1)) = joinR sep (x :: r.take i) ++ sep ++ y := by
  simp only [joinR]
  rw [List.take_add_one, h, List.flatMap_append]; simp
set_option maxHeartbeats 2000000 in
theorem join_ok (l : List (List UInt8)) (sep : List UInt8) (p : Option Addr) (c : Nat) (hc : l.length ≤ c) (hn : l.length ≤ 1048577) (hsp : sep.length ≤ 1048576) (hj : (joinR sep l).length ≤ 1073741824) (w : World) (hi : Im [] w p (strs l)) :
    PureC Tryd.prog 51 #[.slice p l.length c, str sep] w (str (joinR sep l)) := by
  match l, hc, hn, hj, hi with
  | [], hc, hn, hj, hi =>
    refine enter (l := [.slice p 0 c, str sep]) Tryd.func51 rfl Tryd.ntmps51 (by kernel_rfl) rfl ?_
    refine sgo ?_
    (first | refine fp1 (.inl rfl) rfl rfl ?_ | refine fp2 (.inl rfl) rfl rfl rfl ?_ | refine fp3 (.inl rfl) rfl rfl rfl rfl ?_ | refine fp0 (.inr rfl) rfl ?_ | refine fp0 (.inl rfl) rfl ?_ | refine fp1 (.inr rfl) rfl rfl ?_); refine ⟨?_, by (first | exact Frm.refl _ | assumption | exact Go.Sv.Sep.frm (by assumption) | (refine Frm.trans ?_ (by assumption); first | exact Frm.refl _ | assumption))⟩; (try simp only [realB, rv_true, Nat.reduceBEq, cond_true, cond_false, entG, real_lif, updGL])
    rfl
  | [x], hc, hn, hj, hi =>
    have hSg : Sg w p [str x] := hi.sg
    have hps : ∃ q, p = some q := hi.some (by simp [strs])
    refine enter (l := [.slice p 1 c, str sep]) Tryd.func51 rfl Tryd.ntmps51 (by kernel_rfl) rfl ?_
    refine sgo ?_
    (first | refine fp1 (.inl rfl) rfl rfl ?_ | refine fp2 (.inl rfl) rfl rfl rfl ?_ | refine fp3 (.inl rfl) rfl rfl rfl rfl ?_ | refine fp0 (.inr rfl) rfl ?_ | refine fp0 (.inl rfl) rfl ?_ | refine fp1 (.inr rfl) rfl rfl ?_); refine ⟨?_, by (first | exact Frm.refl _ | assumption | exact Go.Sv.Sep.frm (by assumption) | (refine Frm.trans ?_ (by assumption); first | exact Frm.refl _ | assumption))⟩; (try simp only [realB, rv_true, Nat.reduceBEq, cond_true, cond_false, entG, real_lif, updGL])
    simp [joinR]
  | x :: y :: r, hc, hn, hj, hi =>
    have hl : (x :: y :: r).length = r.length + 2 := rfl
    have hjl := join_len sep x (y :: r)
    have hps : ∃ q, p = some q := hi.some (by simp [strs])
    have hrl : (y :: r).length = r.length + 1 := rfl
    have hx0 : (strs (x :: y :: r))[0]? = some (str x) := rfl
    have hxl : x.length ≤ tlen (x :: y :: r) := by simp [tlen]
    have htl : Im [] w (p.map (·.add 1)) (strs (y :: r)) := hi.drop 1
    rw [hrl] at hjl
    generalize hL : x :: y :: r = L at *
    have hm : sep.length * (r.length + 1) ≤ 1073741824 := by omega
    have hmi : (sep.length : Int) * ((L.length : Int) - 1) = ((sep.length * (r.length + 1) : Nat) : Int) := by
      rw [hl]; push_cast; congr 1; omega
    generalize hM : sep.length * (r.length + 1) = M at *
    refine enter (l := [.slice p L.length c, str sep]) Tryd.func51 rfl Tryd.ntmps51 (by kernel_rfl) rfl ?_
    refine sgo ?_
    refine wcno ?_ (ht := decide_eq_false (by omega))
    refine sgo ?_
    refine wcno ?_ (ht := decide_eq_false (by omega))
    refine sgo ?_
    refine wcutt (X := Unit) (fun _ => [(0, .slice p L.length c), (1, str sep), (5, int M)]) (fun _ w' => w' = w) ?_ ?_
    · (show WC _ _ _ _ _ _ _; first | refine WC_dec rfl (fun hc => ?_) (fun hc => ?_) | refine WC_cond rfl (fun hc => ?_) (fun hc => ?_))
      · have hq : (sep.length : Int) < 9223372036854775807 / ((L.length : Int) - 1) := by
          have := (Int.le_ediv_iff_mul_le (c := (L.length : Int) - 1) (a := (sep.length : Int) + 1) (b := 9223372036854775807) (by omega)).2 (by rw [Int.add_mul, hmi]; omega)
          omega
        refine sgo ?_
        refine wcno ?_ (ht := decide_eq_false (by omega))
        refine sgo ?_
        refine ⟨(), ⟨rfl, rfl, ?_, trivial⟩, rfl⟩
        show int _ = int _
        rw [hmi, Int.zero_add]
      · have hz : sep.length = 0 := by omega
        have hM0 : M = 0 := by rw [← hM, hz, Nat.zero_mul]
        refine sgo ?_
        refine ⟨(), ⟨rfl, rfl, ?_, trivial⟩, rfl⟩
        rw [hM0]; rfl
    rintro _ w1 ρ rfl
    have hSg : Sg w1 p (strs L) := hi.sg
    have hsl := strs_len L
    refine sgo ?_
    refine wcloop (X := Nat) (fun i => [(0, .slice p L.length c), (1, str sep), (5, int ((M + tlen (L.take i) : Nat))), (39, .slice p L.length c), (40, int L.length), (41, int i)])
      (fun i wr => i ≤ L.length ∧ wr = w1) (fun i => L.length - i) 0 ⟨rfl, rfl, rfl, rfl, rfl, rfl, trivial⟩ ⟨Nat.zero_le _, rfl⟩ ?_
    rintro i w1 ρ2 ⟨hil, rfl⟩
    have ht1 := tlen_take L i
    refine sgo ?_
    (show WC _ _ _ _ _ _ _; first | refine WC_dec rfl (fun hc => ?_) (fun hc => ?_) | refine WC_cond rfl (fun hc => ?_) (fun hc => ?_))
    · have hlt : i < L.length := by omega
      have hx : L[i]? = some L[i] := List.getElem?_eq_getElem hlt
      have hgx := strs_at hx
      have hsn := tlen_snoc hx
      have ht2 := tlen_take L (i + 1)
      generalize L[i] = z at *
      clear hc
      refine sgo ?_
      refine wcno ?_ (ht := decide_eq_false (by omega))
      refine sgo ?_
      refine ⟨i + 1, ⟨rfl, rfl, ?_, rfl, rfl, rfl, trivial⟩, ⟨hlt, rfl⟩, (by (try dsimp only); omega)⟩
      show int _ = int _
      congr 1
      omega
    · obtain rfl : i = L.length := by omega
      rw [List.take_length]
      refine sgo ?_
      refine wlallocT fun b w2 hbw ha0 hf0 => ?_
      have hB0 : BuP TB TY w2 b none none 0 [] := ⟨.inl rfl, ha0, ⟨by simp [bs], .inl ⟨rfl, rfl⟩⟩, by simp [rb]⟩
      refine sgo ?_
      refine wlcall (grow_ok b (M + tlen L) w1 w2 hf0 hbw (by omega) hB0) ?_
      rintro _ w3 ⟨q, hB3, hq3, hf3⟩
      have hSg := (hi.frm hf3).sg
      have htl3 := htl.frm hf3
      have hYL : L.length = (y :: r).length + 1 := by rw [hl]; rfl
      have hjt : ∀ i, (joinR sep (x :: (y :: r).take i)).length ≤ (joinR sep L).length := by
        intro i
        rw [← hL, join_len, join_len]
        have h1 : ((y :: r).take i).length ≤ (y :: r).length := by rw [List.length_take]; omega
        have h2 := Nat.mul_le_mul_left sep.length h1
        have h3 := tlen_take (y :: r) i
        simp only [tlen, List.map_cons, List.sum_cons] at h3 ⊢
        omega
      generalize hY : y :: r = Y at *
      have hjx : joinR sep (x :: Y) = joinR sep L := by rw [← hL]
      refine sgo ?_
      refine wlcall (writeString_ok b q [] x _ hB3 (by simp only [List.length_nil]; omega)) ?_
      rintro _ w4 ⟨rfl, q4, hB4, hl4⟩
      have hf4 := hf3.step hl4.1 hq3
      have hq4 := hl4.fresh hf3 hq3
      clear hB3 hl4
      refine sgo ?_
      have he : slp c (Int.toNat 1) p (Int.toNat 1 * 1) = p.map (·.add 1) := slp_ne (show c ≠ 1 by omega) p 1
      rw [he]
      have hps2 : ∃ q, p.map (·.add 1) = some q := by obtain ⟨a, rfl⟩ := hps; exact ⟨_, rfl⟩
      have hYl : Y.length = L.length - 1 := by omega
      generalize p.map (·.add 1) = p2 at *
      clear he
      rw [List.nil_append] at hB4
      refine wcloop (X := Nat × Option Addr) (fun x => [(1, str sep), (8, ptrAt (pb b) 0), (63, .slice p2 (L.length - 1) (c - 1)), (64, int (L.length - 1 : Nat)), (65, int x.1)])
        (fun z wr => z.1 ≤ Y.length ∧ Bld TB TY wr b z.2 (joinR sep (x :: Y.take z.1)) ∧ Frm w1 wr ∧ ∀ k ∈ b :: rb z.2, w1.heap.size ≤ k)
        (fun x => Y.length - x.1) (0, q4) ⟨rfl, rfl, rfl, rfl, rfl, trivial⟩ ⟨by omega, by simpa [joinR] using hB4, hf4, hq4⟩ ?_
      clear hB4 hq4 hf4 htl3 hSg hf3 hq3
      rintro ⟨i, q5⟩ wr ρ3 ⟨hil, hBl, hfr, hq5⟩
      dsimp only at hil hBl hq5 ⊢
      rw [← hYl]
      have hI := htl.frm hfr
      have hSg := hI.sg
      have hsl := strs_len Y
      refine sgo ?_
      (show WC _ _ _ _ _ _ _; first | refine WC_dec rfl (fun hc => ?_) (fun hc => ?_) | refine WC_cond rfl (fun hc => ?_) (fun hc => ?_))
      · have hlt : i < Y.length := by omega
        have hx : Y[i]? = some Y[i] := List.getElem?_eq_getElem hlt
        have hgx := strs_at hx
        have hsn := join_snoc (sep := sep) (x := x) hx
        have ht1 := hjt i
        have ht2 := hjt (i + 1)
        rw [hsn, List.length_append, List.length_append] at ht2
        generalize Y[i] = z at *
        generalize joinR sep (x :: Y.take i) = A at *
        clear hc
        refine sgo ?_
        refine wlcall (writeString_ok b q5 A sep _ hBl (by omega)) ?_
        rintro _ w5 ⟨rfl, q6, hB6, hl6⟩
        have hf6 := hfr.step hl6.1 hq5
        have hq6 := hl6.fresh hfr hq5
        clear hBl hl6
        refine sgo ?_
        refine wlcall (writeString_ok b q6 (A ++ sep) z _ hB6 (by rw [List.length_append]; omega)) ?_
        rintro _ w7 ⟨rfl, q7, hB7, hl7⟩
        have hf7 := hf6.step hl7.1 hq6
        have hq7 := hl7.fresh hf6 hq6
        refine sgo ?_
        refine ⟨(i + 1, q7), ⟨rfl, rfl, rfl, rfl, rfl, trivial⟩, ⟨by dsimp only; omega, ?_, hf7, hq7⟩, by dsimp only; omega⟩
        dsimp only; rw [hsn]; exact hB7
      · obtain rfl : i = Y.length := by omega
        rw [List.take_length] at hBl
        refine sgo ?_
        refine wlcall (string_ok w1.heap.size b q5 _ _ hBl hq5 hfr.size) ?_
        rintro v w8 ⟨rfl, hf8⟩
        have hfr8 : Frm w1 w8 := Below.trans hfr hf8
        refine sgo ?_
        (first | refine fp1 (.inl rfl) rfl rfl ?_ | refine fp2 (.inl rfl) rfl rfl rfl ?_ | refine fp3 (.inl rfl) rfl rfl rfl rfl ?_ | refine fp0 (.inr rfl) rfl ?_ | refine fp0 (.inl rfl) rfl ?_ | refine fp1 (.inr rfl) rfl rfl ?_); refine ⟨?_, by (first | exact Frm.refl _ | assumption | exact Go.Sv.Sep.frm (by assumption) | (refine Frm.trans ?_ (by assumption); first | exact Frm.refl _ | assumption))⟩; (try simp only [realB, rv_true, Nat.reduceBEq, cond_true, cond_false, entG, real_lif, updGL])
        rw [hjx]
end Go.Proofs.YtjpnhaaneaikbaaDoor

/-
  Package value: Tidy, of words; package sieveref13: Tokens; lists of words compared.
-/
set_option linter.unusedSimpArgs false
set_option linter.unusedVariables false
set_option linter.unnecessarySimpa false
namespace Go.Proofs.YtjpnhaaneaikbaaDoor
open Go Go.Sv Go.RowKit

theorem fields_len (s : List UInt8) : (fieldsR s).length ≤ s.length := by
  have key : ∀ (l cur : List UInt8), (fgo cur l).length ≤ l.length + (if cur = [] then 0 else 1) := by
    intro l
    induction l with
    | nil => intro cur; unfold fgo; split <;> simp
    | cons b l ih =>
      intro cur
      have h0 := ih []
      have h1 := ih (cur ++ [b])
      rw [if_pos rfl] at h0
      rw [if_neg (by simp)] at h1
      unfold fgo
      by_cases hb : blkR b = true
      · rw [if_pos hb]
        by_cases hc : cur = []
        · rw [if_pos hc, if_pos hc]; simp; omega
        · rw [if_neg hc, if_neg hc]; simp; omega
      · rw [if_neg hb]; simp; omega
  have := key s []
  rw [if_pos rfl] at this
  exact this
theorem tokens_ok (s : List UInt8) (hb : s.length ≤ 20000000) (w0 w : World) (cs : List Plot) (hS : Sep w0 w cs) :
    CallsR Tryd.prog 9 #[str s] w fun r w' => ∃ q c, r = .slice q (fieldsR (cleanR s)).length c ∧ Sep w0 w' (pRow 1 q (fieldsR (cleanR s)).length c (strs (fieldsR (cleanR s))) :: cs) := by
  have hl := cleanR_len s
  refine enter (l := [str s]) Tryd.func9 rfl Tryd.ntmps9 (by kernel_rfl) rfl ?_
  refine sgo ?_
  refine wlpure (inClean_ok s (by omega) _) fun w1 hf1 => ?_
  replace hS := hS.grow hf1
  refine sgo ?_
  refine wlcall (words_ok (cleanR s) (cleanR_valid s) (by omega) _) ?_
  rintro _ w2 ⟨q, c, rfl, hS2⟩
  replace hS := hS.seq hS2
  refine sgo ?_
  (first | refine fp1 (.inl rfl) rfl rfl ?_ | refine fp2 (.inl rfl) rfl rfl rfl ?_ | refine fp3 (.inl rfl) rfl rfl rfl rfl ?_ | refine fp0 (.inr rfl) rfl ?_ | refine fp0 (.inl rfl) rfl ?_ | refine fp1 (.inr rfl) rfl rfl ?_)
  exact ⟨q, c, rfl, hS⟩
set_option maxHeartbeats 1000000 in
theorem same13_ok (l m : List (List UInt8)) (p p' : Option Addr) (c c' : Nat) (hl : l.length ≤ 1073741824) (hm : m.length ≤ 1073741824) (w : World) (h1 : Im [] w p (strs l)) (h2 : Im [] w p' (strs m)) :
    PureC Tryd.prog 13 #[.slice p l.length c, .slice p' m.length c'] w (.bool (decide (l = m))) := by
  have hll := strs_len l
  have hml := strs_len m
  refine enter (l := [.slice p l.length c, .slice p' m.length c']) Tryd.func13 rfl Tryd.ntmps13 (by kernel_rfl) rfl ?_
  refine sgo ?_
  (show WC _ _ _ _ _ _ _; first | refine WC_dec rfl (fun hc => ?_) (fun hc => ?_) | refine WC_cond rfl (fun hc => ?_) (fun hc => ?_))
  · have hne : l ≠ m := fun h => by subst h; exact hc rfl
    rw [decide_eq_false hne]
    refine sgo ?_
    (first | refine fp1 (.inl rfl) rfl rfl ?_ | refine fp2 (.inl rfl) rfl rfl rfl ?_ | refine fp3 (.inl rfl) rfl rfl rfl rfl ?_ | refine fp0 (.inr rfl) rfl ?_ | refine fp0 (.inl rfl) rfl ?_ | refine fp1 (.inr rfl) rfl rfl ?_); refine ⟨?_, by (first | exact Frm.refl _ | assumption | exact Go.Sv.Sep.frm (by assumption) | (refine Frm.trans ?_ (by assumption); first | exact Frm.refl _ | assumption))⟩; (try simp only [realB, rv_true, Nat.reduceBEq, cond_true, cond_false, entG, real_lif, updGL])
    all_goals rfl
  have hlen : l.length = m.length := by omega
  clear hc
  refine sgo ?_
  refine wcloop (X := Nat) (fun i => [(0, .slice p l.length c), (1, .slice p' m.length c'), (12, int l.length), (13, int i)])
    (fun i w' => i ≤ l.length ∧ l.take i = m.take i ∧ Frm w w') (fun i => l.length - i) 0 ⟨rfl, rfl, rfl, rfl, trivial⟩ ⟨Nat.zero_le _, rfl, Frm.refl w⟩ ?_
  rintro i wr ρ ⟨hil, heq, hf⟩
  have h1' := h1.frm hf
  have h2' := h2.frm hf
  refine sgo ?_
  (show WC _ _ _ _ _ _ _; first | refine WC_dec rfl (fun hc => ?_) (fun hc => ?_) | refine WC_cond rfl (fun hc => ?_) (fun hc => ?_))
  · have hlt : i < l.length := by omega
    have hlt2 : i < m.length := by omega
    have hx : l[i]? = some l[i] := List.getElem?_eq_getElem hlt
    have hy : m[i]? = some m[i] := List.getElem?_eq_getElem hlt2
    have hcx := strs_at hx
    have hcy := strs_at hy
    have hp : ∃ a, p = some a := h1.sg.some (by omega)
    have hp' : ∃ a, p' = some a := h2.sg.some (by omega)
    have hsg1 := h1'.sg
    have hsg2 := h2'.sg
    clear hc
    generalize l[i] = x at *
    generalize m[i] = y at *
    refine sgo ?_
    refine wcdraw ?_
    refine qgo ?_
    refine QL_nil ?_
    intro w1 hf1
    replace hf := hf.trans hf1
    refine sgo ?_
    (show WC _ _ _ _ _ _ _; first | refine WC_dec rfl (fun hc => ?_) (fun hc => ?_) | refine WC_cond rfl (fun hc => ?_) (fun hc => ?_))
    · have hne : l ≠ m := fun h => by subst h; rw [hx] at hy; exact hc (Option.some.inj hy)
      rw [decide_eq_false hne]
      refine sgo ?_
      (first | refine fp1 (.inl rfl) rfl rfl ?_ | refine fp2 (.inl rfl) rfl rfl rfl ?_ | refine fp3 (.inl rfl) rfl rfl rfl rfl ?_ | refine fp0 (.inr rfl) rfl ?_ | refine fp0 (.inl rfl) rfl ?_ | refine fp1 (.inr rfl) rfl rfl ?_); refine ⟨?_, by (first | exact Frm.refl _ | assumption | exact Go.Sv.Sep.frm (by assumption) | (refine Frm.trans ?_ (by assumption); first | exact Frm.refl _ | assumption))⟩; (try simp only [realB, rv_true, Nat.reduceBEq, cond_true, cond_false, entG, real_lif, updGL])
      all_goals rfl
    · have hxy : x = y := Decidable.not_not.1 hc
      refine sgo ?_
      exact ⟨i + 1, ⟨rfl, rfl, rfl, rfl, trivial⟩, ⟨hlt, by rw [List.take_add_one, List.take_add_one, hx, hy, heq, hxy], hf⟩, by omega⟩
  · obtain rfl : i = l.length := by omega
    rw [List.take_length, hlen, List.take_length] at heq
    rw [decide_eq_true heq]
    refine sgo ?_
    (first | refine fp1 (.inl rfl) rfl rfl ?_ | refine fp2 (.inl rfl) rfl rfl rfl ?_ | refine fp3 (.inl rfl) rfl rfl rfl rfl ?_ | refine fp0 (.inr rfl) rfl ?_ | refine fp0 (.inl rfl) rfl ?_ | refine fp1 (.inr rfl) rfl rfl ?_); refine ⟨?_, by (first | exact Frm.refl _ | assumption | exact Go.Sv.Sep.frm (by assumption) | (refine Frm.trans ?_ (by assumption); first | exact Frm.refl _ | assumption))⟩; (try simp only [realB, rv_true, Nat.reduceBEq, cond_true, cond_false, entG, real_lif, updGL])
    all_goals rfl
end Go.Proofs.YtjpnhaaneaikbaaDoor

/- This seat's function types as instances (made by a program of ours). -/
namespace Go.Proofs.YtjpnhaaneaikbaaDoor
open Go Go.Sv
instance : Agg Tryd.prog 1 false := ⟨_, Tryd.underlying1, rfl⟩
instance : Inf Tryd.prog 1 (.nilFunc) 1 8 := ⟨by kernel_rfl⟩
instance : Agg Tryd.prog 22 false := ⟨_, Tryd.underlying22, rfl⟩
instance : Inf Tryd.prog 22 (.nilFunc) 1 8 := ⟨by kernel_rfl⟩
instance : Agg Tryd.prog 24 false := ⟨_, Tryd.underlying24, rfl⟩
instance : Inf Tryd.prog 24 (.nilFunc) 1 8 := ⟨by kernel_rfl⟩
instance : Agg Tryd.prog 26 false := ⟨_, Tryd.underlying26, rfl⟩
instance : Inf Tryd.prog 26 (.nilFunc) 1 8 := ⟨by kernel_rfl⟩
instance : Agg Tryd.prog 27 false := ⟨_, Tryd.underlying27, rfl⟩
instance : Inf Tryd.prog 27 (.nilFunc) 1 8 := ⟨by kernel_rfl⟩
instance : Agg Tryd.prog 28 false := ⟨_, Tryd.underlying28, rfl⟩
instance : Inf Tryd.prog 28 (.nilFunc) 1 8 := ⟨by kernel_rfl⟩
instance : Agg Tryd.prog 34 false := ⟨_, Tryd.underlying34, rfl⟩
instance : Inf Tryd.prog 34 (.nilFunc) 1 8 := ⟨by kernel_rfl⟩
instance : Agg Tryd.prog 37 false := ⟨_, Tryd.underlying37, rfl⟩
instance : Inf Tryd.prog 37 (.nilFunc) 1 8 := ⟨by kernel_rfl⟩
instance : Agg Tryd.prog 38 false := ⟨_, Tryd.underlying38, rfl⟩
instance : Inf Tryd.prog 38 (.nilFunc) 1 8 := ⟨by kernel_rfl⟩
instance : Agg Tryd.prog 40 false := ⟨_, Tryd.underlying40, rfl⟩
instance : Inf Tryd.prog 40 (.nilFunc) 1 8 := ⟨by kernel_rfl⟩
instance : Agg Tryd.prog 41 false := ⟨_, Tryd.underlying41, rfl⟩
instance : Inf Tryd.prog 41 (.nilFunc) 1 8 := ⟨by kernel_rfl⟩
instance : Agg Tryd.prog 43 false := ⟨_, Tryd.underlying43, rfl⟩
instance : Inf Tryd.prog 43 (.nilFunc) 1 8 := ⟨by kernel_rfl⟩
instance : Agg Tryd.prog 45 false := ⟨_, Tryd.underlying45, rfl⟩
instance : Inf Tryd.prog 45 (.nilFunc) 1 8 := ⟨by kernel_rfl⟩
instance : Agg Tryd.prog 46 false := ⟨_, Tryd.underlying46, rfl⟩
instance : Inf Tryd.prog 46 (.nilFunc) 1 8 := ⟨by kernel_rfl⟩
instance : Agg Tryd.prog 49 false := ⟨_, Tryd.underlying49, rfl⟩
instance : Inf Tryd.prog 49 (.nilFunc) 1 8 := ⟨by kernel_rfl⟩
instance : Agg Tryd.prog 50 false := ⟨_, Tryd.underlying50, rfl⟩
instance : Inf Tryd.prog 50 (.nilFunc) 1 8 := ⟨by kernel_rfl⟩
instance : Agg Tryd.prog 51 false := ⟨_, Tryd.underlying51, rfl⟩
instance : Inf Tryd.prog 51 (.nilFunc) 1 8 := ⟨by kernel_rfl⟩
instance : Agg Tryd.prog 53 false := ⟨_, Tryd.underlying53, rfl⟩
instance : Inf Tryd.prog 53 (.nilFunc) 1 8 := ⟨by kernel_rfl⟩
instance : Agg Tryd.prog 58 false := ⟨_, Tryd.underlying58, rfl⟩
instance : Inf Tryd.prog 58 (.nilFunc) 1 8 := ⟨by kernel_rfl⟩
instance : Agg Tryd.prog 62 false := ⟨_, Tryd.underlying62, rfl⟩
instance : Inf Tryd.prog 62 (.nilFunc) 1 8 := ⟨by kernel_rfl⟩
instance : Agg Tryd.prog 63 false := ⟨_, Tryd.underlying63, rfl⟩
instance : Inf Tryd.prog 63 (.nilFunc) 1 8 := ⟨by kernel_rfl⟩
instance : Agg Tryd.prog 64 false := ⟨_, Tryd.underlying64, rfl⟩
instance : Inf Tryd.prog 64 (.nilFunc) 1 8 := ⟨by kernel_rfl⟩
instance : Agg Tryd.prog 65 false := ⟨_, Tryd.underlying65, rfl⟩
instance : Inf Tryd.prog 65 (.nilFunc) 1 8 := ⟨by kernel_rfl⟩
instance : Agg Tryd.prog 66 false := ⟨_, Tryd.underlying66, rfl⟩
instance : Inf Tryd.prog 66 (.nilFunc) 1 8 := ⟨by kernel_rfl⟩
instance : Agg Tryd.prog 68 false := ⟨_, Tryd.underlying68, rfl⟩
instance : Inf Tryd.prog 68 (.nilFunc) 1 8 := ⟨by kernel_rfl⟩
instance : Agg Tryd.prog 69 false := ⟨_, Tryd.underlying69, rfl⟩
instance : Inf Tryd.prog 69 (.nilFunc) 1 8 := ⟨by kernel_rfl⟩
instance : Agg Tryd.prog 70 false := ⟨_, Tryd.underlying70, rfl⟩
instance : Inf Tryd.prog 70 (.nilFunc) 1 8 := ⟨by kernel_rfl⟩
instance : Agg Tryd.prog 71 false := ⟨_, Tryd.underlying71, rfl⟩
instance : Inf Tryd.prog 71 (.nilFunc) 1 8 := ⟨by kernel_rfl⟩
instance : Agg Tryd.prog 72 false := ⟨_, Tryd.underlying72, rfl⟩
instance : Inf Tryd.prog 72 (.nilFunc) 1 8 := ⟨by kernel_rfl⟩
instance : Agg Tryd.prog 73 false := ⟨_, Tryd.underlying73, rfl⟩
instance : Inf Tryd.prog 73 (.nilFunc) 1 8 := ⟨by kernel_rfl⟩
instance : Agg Tryd.prog 75 false := ⟨_, Tryd.underlying75, rfl⟩
instance : Inf Tryd.prog 75 (.nilFunc) 1 8 := ⟨by kernel_rfl⟩
instance : Agg Tryd.prog 76 false := ⟨_, Tryd.underlying76, rfl⟩
instance : Inf Tryd.prog 76 (.nilFunc) 1 8 := ⟨by kernel_rfl⟩
instance : Agg Tryd.prog 77 false := ⟨_, Tryd.underlying77, rfl⟩
instance : Inf Tryd.prog 77 (.nilFunc) 1 8 := ⟨by kernel_rfl⟩
instance : Agg Tryd.prog 78 false := ⟨_, Tryd.underlying78, rfl⟩
instance : Inf Tryd.prog 78 (.nilFunc) 1 8 := ⟨by kernel_rfl⟩
instance : Agg Tryd.prog 79 false := ⟨_, Tryd.underlying79, rfl⟩
instance : Inf Tryd.prog 79 (.nilFunc) 1 8 := ⟨by kernel_rfl⟩
instance : Agg Tryd.prog 80 false := ⟨_, Tryd.underlying80, rfl⟩
instance : Inf Tryd.prog 80 (.nilFunc) 1 8 := ⟨by kernel_rfl⟩
instance : Agg Tryd.prog 81 false := ⟨_, Tryd.underlying81, rfl⟩
instance : Inf Tryd.prog 81 (.nilFunc) 1 8 := ⟨by kernel_rfl⟩
instance : Agg Tryd.prog 82 false := ⟨_, Tryd.underlying82, rfl⟩
instance : Inf Tryd.prog 82 (.nilFunc) 1 8 := ⟨by kernel_rfl⟩
instance : Agg Tryd.prog 86 false := ⟨_, Tryd.underlying86, rfl⟩
instance : Inf Tryd.prog 86 (.nilFunc) 1 8 := ⟨by kernel_rfl⟩
instance : Agg Tryd.prog 90 false := ⟨_, Tryd.underlying90, rfl⟩
instance : Inf Tryd.prog 90 (.nilFunc) 1 8 := ⟨by kernel_rfl⟩
instance : Agg Tryd.prog 91 false := ⟨_, Tryd.underlying91, rfl⟩
instance : Inf Tryd.prog 91 (.nilFunc) 1 8 := ⟨by kernel_rfl⟩
instance : Agg Tryd.prog 92 false := ⟨_, Tryd.underlying92, rfl⟩
instance : Inf Tryd.prog 92 (.nilFunc) 1 8 := ⟨by kernel_rfl⟩
instance : Agg Tryd.prog 93 false := ⟨_, Tryd.underlying93, rfl⟩
instance : Inf Tryd.prog 93 (.nilFunc) 1 8 := ⟨by kernel_rfl⟩
instance : Agg Tryd.prog 94 false := ⟨_, Tryd.underlying94, rfl⟩
instance : Inf Tryd.prog 94 (.nilFunc) 1 8 := ⟨by kernel_rfl⟩
instance : Agg Tryd.prog 95 false := ⟨_, Tryd.underlying95, rfl⟩
instance : Inf Tryd.prog 95 (.nilFunc) 1 8 := ⟨by kernel_rfl⟩
instance : Agg Tryd.prog 96 false := ⟨_, Tryd.underlying96, rfl⟩
instance : Inf Tryd.prog 96 (.nilFunc) 1 8 := ⟨by kernel_rfl⟩
instance : Agg Tryd.prog 98 false := ⟨_, Tryd.underlying98, rfl⟩
instance : Inf Tryd.prog 98 (.nilFunc) 1 8 := ⟨by kernel_rfl⟩
instance : Agg Tryd.prog 100 false := ⟨_, Tryd.underlying100, rfl⟩
instance : Inf Tryd.prog 100 (.nilFunc) 1 8 := ⟨by kernel_rfl⟩
instance : Agg Tryd.prog 102 false := ⟨_, Tryd.underlying102, rfl⟩
instance : Inf Tryd.prog 102 (.nilFunc) 1 8 := ⟨by kernel_rfl⟩
instance : Agg Tryd.prog 103 false := ⟨_, Tryd.underlying103, rfl⟩
instance : Inf Tryd.prog 103 (.nilFunc) 1 8 := ⟨by kernel_rfl⟩
instance : Agg Tryd.prog 105 false := ⟨_, Tryd.underlying105, rfl⟩
instance : Inf Tryd.prog 105 (.nilFunc) 1 8 := ⟨by kernel_rfl⟩
instance : Agg Tryd.prog 107 false := ⟨_, Tryd.underlying107, rfl⟩
instance : Inf Tryd.prog 107 (.nilFunc) 1 8 := ⟨by kernel_rfl⟩
instance : Agg Tryd.prog 108 false := ⟨_, Tryd.underlying108, rfl⟩
instance : Inf Tryd.prog 108 (.nilFunc) 1 8 := ⟨by kernel_rfl⟩
instance : Agg Tryd.prog 109 false := ⟨_, Tryd.underlying109, rfl⟩
instance : Inf Tryd.prog 109 (.nilFunc) 1 8 := ⟨by kernel_rfl⟩
instance : Agg Tryd.prog 111 false := ⟨_, Tryd.underlying111, rfl⟩
instance : Inf Tryd.prog 111 (.nilFunc) 1 8 := ⟨by kernel_rfl⟩
instance : Agg Tryd.prog 112 false := ⟨_, Tryd.underlying112, rfl⟩
instance : Inf Tryd.prog 112 (.nilFunc) 1 8 := ⟨by kernel_rfl⟩
instance : Agg Tryd.prog 113 false := ⟨_, Tryd.underlying113, rfl⟩
instance : Inf Tryd.prog 113 (.nilFunc) 1 8 := ⟨by kernel_rfl⟩
instance : Agg Tryd.prog 119 false := ⟨_, Tryd.underlying119, rfl⟩
instance : Inf Tryd.prog 119 (.nilFunc) 1 8 := ⟨by kernel_rfl⟩
instance : Agg Tryd.prog 125 false := ⟨_, Tryd.underlying125, rfl⟩
instance : Inf Tryd.prog 125 (.nilFunc) 1 8 := ⟨by kernel_rfl⟩
instance : Agg Tryd.prog 128 false := ⟨_, Tryd.underlying128, rfl⟩
instance : Inf Tryd.prog 128 (.nilFunc) 1 8 := ⟨by kernel_rfl⟩
end Go.Proofs.YtjpnhaaneaikbaaDoor

/-
  Package value: Tidy. The law ValueNames.
-/
set_option linter.unusedSimpArgs false
set_option linter.unusedVariables false
set_option linter.unnecessarySimpa false
namespace Go.Proofs.YtjpnhaaneaikbaaDoor
open Go Go.Sv Go.RowKit

def fv (f : FuncId) : Value := .func (.func f) #[] #[]
def kindsV : List Value := [fv 38, fv 39, fv 40, fv 41, fv 42, fv 43, fv 44, fv 45, fv 46]
theorem kinds_ok (w : World) : CallsR Tryd.prog 28 #[] w fun v w' => Frm w w' ∧ v = .agg ⟨kindsV⟩ := by
  refine enter (l := []) Tryd.func28 rfl Tryd.ntmps28 (by kernel_rfl) rfl ?_
  have hS := Sep.start w
  refine sgo ?_
  refine salloc hS fun b0 w0 hS => ?_
  refine sgo ?_
  refine wl ?_ (y_arr (zs := [.nilFunc, .nilFunc, .nilFunc, .nilFunc, .nilFunc, .nilFunc, .nilFunc, .nilFunc, .nilFunc]) kindsV rfl rfl rfl (by simp [kindsV, fv, Value.cells]))
  refine sgo ?_
  refine ssta (vs := kindsV) hS 0 (fun w3 hS => ?_)
  refine sgo ?_
  have ho := hS.own 0 rfl
  refine fpc (l := kindsV) (zv := .agg #[.nilFunc, .nilFunc, .nilFunc, .nilFunc, .nilFunc, .nilFunc, .nilFunc, .nilFunc, .nilFunc]) (.inl rfl) rfl rfl rfl ho ⟨hS.frm, rfl⟩
/-- a rule: its name, its kind, and its words, as they lie -/
def takV (nm : List UInt8) (k : Int) (wp : Option Addr) (wn wc : Nat) (sp : Option Addr) (sn sc : Nat) (rel : Bool) : List Value := [str nm, int k, .slice wp wn wc, .slice sp sn sc, .bool rel]
def tidyV (r : List UInt8 × Bool) : Value := .tuple #[str (if r.2 = true then r.1 else []), .bool r.2, int 0]
set_option maxHeartbeats 1000000 in
theorem tidy_ok (nm : List UInt8) (k : Nat) (hk : k < 9) (wp : Option Addr) (wn wc : Nat) (sp : Option Addr) (sn sc : Nat) (rel : Bool) (v : List UInt8) (hb : v.length ≤ 20000000) (f : FuncId) [hf : Fnc Tryd.prog f] (hkf : kindsV[k]? = some (fv f)) (r : List UInt8 × Bool) (w : World)
    (hc : ∀ w', Frm w w' → PureC Tryd.prog f #[.agg ⟨takV nm k wp wn wc sp sn sc rel⟩, str (cleanR v)] w' (.tuple #[str r.1, .bool r.2])) :
    PureC Tryd.prog 15 #[.agg #[str nm, int k, .slice wp wn wc], .slice sp sn sc, .bool rel, str v] w (tidyV r) := by
  have hS := Sep.start w
  refine enter (l := [.agg #[str nm, int k, .slice wp wn wc], .slice sp sn sc, .bool rel, str v]) Tryd.func15 rfl Tryd.ntmps15 (by kernel_rfl) rfl ?_
  refine sgo ?_
  refine sbox hS fun b4 w1 hS => ?_
  replace hS : Sep w w1 [pOwn b4 [str nm, int k, .slice wp wn wc]] := hS
  refine sgo ?_
  refine wlcall (kinds_ok _) ?_
  rintro _ w2 ⟨hf2, rfl⟩
  replace hS := hS.grow hf2
  refine sgo ?_
  refine salloc hS fun b11 w3 hS => ?_
  refine sgo ?_
  refine ssta (vs := kindsV) hS 0 (fun w4 hS => ?_)
  obtain ⟨L, hL, hL9, hS⟩ : ∃ L : List Value, kindsV = L ∧ L.length = 9 ∧ Sep w w4 [pOwn b11 L, pOwn b4 [str nm, int k, .slice wp wn wc]] := ⟨_, rfl, rfl, hS⟩
  rw [hL] at hkf
  clear hL
  refine sgo ?_
  refine wcno ?_ (ht := by simp [pkb]; omega)
  refine sgo ?_
  refine wcdraw ?_
  refine qgo ?_
  have hkf' : L[0 + k]? = some (fv f) := by rw [Nat.zero_add]; exact hkf
  refine ql_load (v := fv f) ?_ (fun w' hw' => y_load rfl ((hS.grow hw').sgv 0 rfl) hkf')
  refine qgo ?_
  refine ql (v := .agg ⟨takV nm k wp wn wc sp sn sc rel⟩) ?_ (YQ.ofY fun w' hw' => y_build (cells := takV nm k wp wn wc sp sn sc rel) rfl)
  refine qgo ?_
  refine qlcallp (fun w' hw' => inClean_ok v (by omega) w') ?_
  refine qlcallv (f := f) (first := []) (args := [.agg ⟨takV nm k wp wn wc sp sn sc rel⟩, str (cleanR v)]) (cap := []) (fun w' hw' => hc w' (hS.frm.trans hw')) ?_
  refine qgo ?_
  refine QL_nil ?_
  intro w5 hf5
  have hfr := hS.frm.trans hf5
  clear hS hc hf5
  obtain ⟨t, ok⟩ := r
  unfold tidyV
  cases ok with
  | false =>
    dsimp only
    refine sgo ?_
    (first | refine fp1 (.inl rfl) rfl rfl ?_ | refine fp2 (.inl rfl) rfl rfl rfl ?_ | refine fp3 (.inl rfl) rfl rfl rfl rfl ?_ | refine fp0 (.inr rfl) rfl ?_ | refine fp0 (.inl rfl) rfl ?_ | refine fp1 (.inr rfl) rfl rfl ?_); refine ⟨?_, by (first | exact Frm.refl _ | assumption | exact Go.Sv.Sep.frm (by assumption) | (refine Frm.trans ?_ (by assumption); first | exact Frm.refl _ | assumption))⟩; (try simp only [realB, rv_true, Nat.reduceBEq, cond_true, cond_false, entG, real_lif, updGL])
    all_goals rfl
  | true =>
    dsimp only
    refine sgo ?_
    (first | refine fp1 (.inl rfl) rfl rfl ?_ | refine fp2 (.inl rfl) rfl rfl rfl ?_ | refine fp3 (.inl rfl) rfl rfl rfl rfl ?_ | refine fp0 (.inr rfl) rfl ?_ | refine fp0 (.inl rfl) rfl ?_ | refine fp1 (.inr rfl) rfl rfl ?_); refine ⟨?_, by (first | exact Frm.refl _ | assumption | exact Go.Sv.Sep.frm (by assumption) | (refine Frm.trans ?_ (by assumption); first | exact Frm.refl _ | assumption))⟩; (try simp only [realB, rv_true, Nat.reduceBEq, cond_true, cond_false, entG, real_lif, updGL])
    all_goals rfl
/-! ## Words, joined -/
def toksR (v : List UInt8) : List UInt8 := joinR [32] (fieldsR v)
theorem fields_tlen : ∀ (l cur : List UInt8), tlen (fgo cur l) ≤ cur.length + l.length
  | [], cur => by
    unfold fgo
    split
    · simp [tlen]
    · simp [tlen]
  | b :: l, cur => by
    have h0 := fields_tlen l []
    have h1 := fields_tlen l (cur ++ [b])
    unfold fgo
    split
    · split
      · simp only [List.length_nil, List.length_cons] at *; omega
      · simp only [tlen, List.map_cons, List.sum_cons, List.length_nil, List.length_cons] at *; omega
    · simp only [List.length_append, List.length_singleton, List.length_cons, List.length_nil] at *; omega
theorem toksR_len (v : List UInt8) : (toksR v).length ≤ 2 * v.length := by
  have h1 := fields_tlen v []
  have h2 := fields_len v
  unfold toksR
  change tlen (fieldsR v) ≤ _ at h1
  cases hf : fieldsR v with
  | nil => simp [joinR]
  | cons x r =>
    rw [join_len]
    rw [hf] at h1 h2
    simp only [List.length_cons, List.length_nil] at *
    omega
theorem takTokens_ok (nm : List UInt8) (k : Int) (wp : Option Addr) (wn wc : Nat) (sp : Option Addr) (sn sc : Nat) (rel : Bool) (v : List UInt8) (hv : validR v = true) (hb : v.length ≤ 1048576) (w : World) :
    PureC Tryd.prog 39 #[.agg ⟨takV nm k wp wn wc sp sn sc rel⟩, str v] w (.tuple #[str (toksR v), .bool true]) := by
  have hl := toksR_len v
  have hfl := fields_len v
  refine enter (l := [.agg ⟨takV nm k wp wn wc sp sn sc rel⟩, str v]) Tryd.func39 rfl Tryd.ntmps39 (by kernel_rfl) rfl ?_
  have hS := Sep.start w
  refine sgo ?_
  refine sbox hS fun b2 w1 hS => ?_
  refine sgo ?_
  refine wlcall (words_ok v hv (by omega) _) ?_
  rintro _ w2 ⟨q, c, rfl, hS2⟩
  have hf2 := hS.frm.trans hS2.frm
  have hcap := (hS2.row 0 rfl).le_cap
  refine sgo ?_
  refine wlpure (join_ok (fieldsR v) [32] q c hcap.1 (by omega) (by decide) (by unfold toksR at hl; omega) _ (hS2.im 0 rfl)) fun w3 hf3 => ?_
  refine sgo ?_
  have hf := hf2.trans hf3
  clear hf2 hf3
  (first | refine fp1 (.inl rfl) rfl rfl ?_ | refine fp2 (.inl rfl) rfl rfl rfl ?_ | refine fp3 (.inl rfl) rfl rfl rfl rfl ?_ | refine fp0 (.inr rfl) rfl ?_ | refine fp0 (.inl rfl) rfl ?_ | refine fp1 (.inr rfl) rfl rfl ?_); refine ⟨?_, by (first | exact Frm.refl _ | assumption | exact Go.Sv.Sep.frm (by assumption) | (refine Frm.trans ?_ (by assumption); first | exact Frm.refl _ | assumption))⟩; (try simp only [realB, rv_true, Nat.reduceBEq, cond_true, cond_false, entG, real_lif, updGL])
  all_goals rfl
theorem tidyTokens_ok (nm : List UInt8) (wp : Option Addr) (wn wc : Nat) (sp : Option Addr) (sn sc : Nat) (rel : Bool) (v : List UInt8) (hb : v.length ≤ 262144) (w : World) :
    PureC Tryd.prog 15 #[.agg #[str nm, int (1 : Nat), .slice wp wn wc], .slice sp sn sc, .bool rel, str v] w (.tuple #[str (toksR (cleanR v)), .bool true, int 0]) := by
  have hl := cleanR_len v
  have := tidy_ok nm 1 (by decide) wp wn wc sp sn sc rel v (by omega) 39 rfl (toksR (cleanR v), true) w (fun w' _ => takTokens_ok nm (1 : Nat) wp wn wc sp sn sc rel (cleanR v) (cleanR_valid v) (by omega) w')
  exact this
def livA : List UInt8 := [32, 97, 9, 98, 32, 32, 97, 32]
def livB : List UInt8 := [45, 49]
theorem liv_a : toksR (cleanR livA) = [97, 32, 98, 32, 97] := by decide +kernel
theorem liv_b : numR (cleanR livB) = none := by decide +kernel
set_option maxHeartbeats 1000000 in
theorem lives13_ok (w : World) : PureC Tryd.prog 8 #[] w (.bool true) := by
  refine enter (l := []) Tryd.func8 rfl Tryd.ntmps8 (by kernel_rfl) rfl ?_
  refine sgo ?_
  refine wlbuild ?_
  refine sgo ?_
  refine wlpure (tidyTokens_ok [] none 0 0 none 0 0 false livA (by decide) _) fun w1 hf1 => ?_
  rw [liv_a]
  refine sgo ?_
  refine wlpure (number_ok livB (by decide) _) fun w2 hf2 => ?_
  rw [liv_b]
  unfold numV
  refine sgo ?_
  have hf := hf1.trans hf2
  clear hf1 hf2
  (first | refine fp1 (.inl rfl) rfl rfl ?_ | refine fp2 (.inl rfl) rfl rfl rfl ?_ | refine fp3 (.inl rfl) rfl rfl rfl rfl ?_ | refine fp0 (.inr rfl) rfl ?_ | refine fp0 (.inl rfl) rfl ?_ | refine fp1 (.inr rfl) rfl rfl ?_); refine ⟨?_, by (first | exact Frm.refl _ | assumption | exact Go.Sv.Sep.frm (by assumption) | (refine Frm.trans ?_ (by assumption); first | exact Frm.refl _ | assumption))⟩; (try simp only [realB, rv_true, Nat.reduceBEq, cond_true, cond_false, entG, real_lif, updGL])
  all_goals rfl
end Go.Proofs.YtjpnhaaneaikbaaDoor

/-
  Packages value and sieveref13: Date.
-/
set_option linter.unusedSimpArgs false
set_option linter.unusedVariables false
set_option linter.unnecessarySimpa false
namespace Go.Proofs.YtjpnhaaneaikbaaDoor
open Go Go.Sv Go.RowKit

def leapR (y : Nat) : Bool := (decide (y % 4 = 0) && !decide (y % 100 = 0)) || decide (y % 400 = 0)
def daysR (y m : Nat) : Nat := if m = 4 ∨ m = 6 ∨ m = 9 ∨ m = 11 then 30 else if m = 2 then (if leapR y = true then 29 else 28) else 31
def numP : Option Nat → Nat × Bool
  | some n => (n, true)
  | none => (0, false)
def okDate (v : List UInt8) (y m d : Nat × Bool) : Bool :=
  decide (v.length = 10 ∧ at0 v 4 = 45 ∧ at0 v 7 = 45) && (y.2 && (m.2 && (d.2 && decide (1 ≤ y.1 ∧ 1 ≤ m.1 ∧ m.1 ≤ 12 ∧ 1 ≤ d.1 ∧ d.1 ≤ daysR y.1 m.1))))
def dateV (ok : Bool) (y m d : Nat) : Value := if ok = true then .tuple #[int y, int m, int d, .bool true] else .tuple #[int (0 : Nat), int (0 : Nat), int (0 : Nat), .bool false]
/-- a date -/
def dateR (v : List UInt8) : Value := dateV (okDate v (numP (numR (v.take 4))) (numP (numR ((v.drop 5).take 2))) (numP (numR (v.drop 8)))) (numP (numR (v.take 4))).1 (numP (numR ((v.drop 5).take 2))).1 (numP (numR (v.drop 8))).1
/-- a number of some digits at a place -/
def atP (s : List UInt8) (at_ n : Nat) : Option Nat := if at_ + n ≤ s.length then numG ((s.drop at_).take n) 0 else none
def dayL (y : Nat) : List Value := [int (0 : Nat), int (31 : Nat), int (if leapR y = true then 29 else 28 : Nat), int (31 : Nat), int (30 : Nat), int (31 : Nat), int (30 : Nat), int (31 : Nat), int (31 : Nat), int (30 : Nat), int (31 : Nat), int (30 : Nat), int (31 : Nat)]
end Go.Proofs.YtjpnhaaneaikbaaDoor

/-
  Texts parted at an ASCII byte: their runes.
-/
set_option linter.unusedSimpArgs false
set_option linter.unusedVariables false
set_option linter.unnecessarySimpa false
namespace Go.Proofs.YtjpnhaaneaikbaaDoor
open Go Go.Sv Go.RowKit

end Go.Proofs.YtjpnhaaneaikbaaDoor

/-
  The law ValueYears.
-/
set_option linter.unusedSimpArgs false
set_option linter.unusedVariables false
set_option linter.unnecessarySimpa false
namespace Go.Proofs.YtjpnhaaneaikbaaDoor
open Go Go.Sv Go.RowKit

/-! ## Plain texts are clean -/
theorem encR_low {r : Nat} (h : r < 128) : encR r = [UInt8.ofNat r] := by
  unfold encR encN
  rw [if_pos (by omega)]
  rfl
/-! ## Numbers in digits -/
def dg (x : Nat) : UInt8 := UInt8.ofNat (48 + x % 10)
def fourR (n : Nat) : List UInt8 := [dg (n / 1000), dg (n / 100), dg (n / 10), dg n]
def dayT (y m d : Nat) : List UInt8 := fourR y ++ [45] ++ (fourR m).drop 2 ++ [45] ++ (fourR d).drop 2
def sumD (y : Nat) : Nat → Nat
  | 0 => 0
  | k + 1 => sumD y k + daysR y (k + 1)
end Go.Proofs.YtjpnhaaneaikbaaDoor

/-
  Package link: paths without dot segments; the twins.
-/
set_option linter.unusedSimpArgs false
set_option linter.unusedVariables false
set_option linter.unnecessarySimpa false
namespace Go.Sv
open Go Go.RowKit
section
variable {P : Program} {σ : Env} {w : World} {d : Option Tmp} {ty t t' : TypeId} {pos : String} {af : Array Edge} {g : Option (Nat × Bool)} {x y : Operand} {a b : Int} {ats : Array TypeId}
end
end Go.Sv
namespace Go.Proofs.YtjpnhaaneaikbaaDoor
open Go Go.Sv Go.RowKit

/-- how many bytes stand ahead of the first of some -/
def upR (l sm : List UInt8) : Nat := (l.takeWhile fun c => decide (c ∉ sm)).length
/-- the last place below n where c stands -/
def lastF (l : List UInt8) (c : Nat) : Nat → Int
  | 0 => -1
  | n + 1 => if at0 l n = c then n else lastF l c n
def lastR (l : List UInt8) (c : Nat) : Int := lastF l c l.length
def parR (l : List UInt8) : List UInt8 := l.take (max (lastR l 47) 0).toNat













def pfx (p l : List UInt8) : Bool := p.isPrefixOf l
/-- a segment's end -/
def segN (l : List UInt8) : Nat := 1 + upR (l.drop 1) [47]
def dotStep (l out : List UInt8) : List UInt8 × List UInt8 :=
  if pfx [46, 46, 47] l then (l.drop 3, out)
  else if pfx [46, 47] l then (l.drop 2, out)
  else if pfx [47, 46, 47] l then (l.drop 2, out)
  else if l = [47, 46] then ([47], out)
  else if pfx [47, 46, 46, 47] l then (l.drop 3, parR out)
  else if l = [47, 46, 46] then ([47], parR out)
  else if l = [46] ∨ l = [46, 46] then ([], out)
  else (l.drop (segN l), out ++ l.take (segN l))
def dotsF : Nat → List UInt8 → List UInt8 → List UInt8
  | 0, _, out => out
  | f + 1, l, out => if l = [] then out else dotsF f (dotStep l out).1 (dotStep l out).2
def dotsL (l out : List UInt8) : List UInt8 := dotsF l.length l out
end Go.Proofs.YtjpnhaaneaikbaaDoor

/-
  Package link: Dots, walked.
-/
set_option linter.unusedSimpArgs false
set_option linter.unusedVariables false
set_option linter.unnecessarySimpa false
namespace Go.Proofs.YtjpnhaaneaikbaaDoor
open Go Go.Sv Go.RowKit


























































































































































end Go.Proofs.YtjpnhaaneaikbaaDoor

/-
  Package sievelaw12: the document's examples.
-/
set_option linter.unusedSimpArgs false
set_option linter.unusedVariables false
set_option linter.unnecessarySimpa false
namespace Go.Proofs.YtjpnhaaneaikbaaDoor
open Go Go.Sv Go.RowKit

end Go.Proofs.YtjpnhaaneaikbaaDoor

/-
  Texts stripped byte by byte: the plain law; sieveref12.Strip.
-/
set_option linter.unusedSimpArgs false
set_option linter.unusedVariables false
set_option linter.unnecessarySimpa false
namespace Go.Proofs.YtjpnhaaneaikbaaDoor
open Go Go.Sv Go.RowKit
/-- bytes up to a blank off the front -/
def bcutL (l : List UInt8) : List UInt8 := l.dropWhile fun c => decide (c.toNat ≤ 32)
def bcutT (l : List UInt8) : List UInt8 := (bcutL l.reverse).reverse
def bkeep (l : List UInt8) : List UInt8 := l.filter fun c => decide (c.toNat ≠ 9 ∧ c.toNat ≠ 10 ∧ c.toNat ≠ 13)
def bstrip (l : List UInt8) : List UInt8 := bkeep (bcutT (bcutL l))
end Go.Proofs.YtjpnhaaneaikbaaDoor

/-
  Packages link and sieveref12: Strip, Scheme, Kind.
-/
set_option linter.unusedSimpArgs false
set_option linter.unusedVariables false
set_option linter.unnecessarySimpa false
namespace Go.Proofs.YtjpnhaaneaikbaaDoor
open Go Go.Sv Go.RowKit

















































def slashB (c : Nat) : Bool := decide (c = 47) || decide (c = 92)
































def colonR (s : List UInt8) : Int := if (schemeR s).2 then (schemeR s).1 else -1
end Go.Proofs.YtjpnhaaneaikbaaDoor

/-
  Packages link and sieveref12: Scheme, Kind.
-/
set_option linter.unusedSimpArgs false
set_option linter.unusedVariables false
set_option linter.unnecessarySimpa false
namespace Go.Proofs.YtjpnhaaneaikbaaDoor
open Go Go.Sv Go.RowKit


































def kindR (s : List UInt8) : Int :=
  if (schemeR s).2 = true then 1 else if s = [] then 0 else if (slashB (at0 s 0) && decide (1 < s.length) && slashB (at0 s 1)) = true then 2
  else if slashB (at0 s 0) = true then 3 else if at0 s 0 = 63 then 4 else if at0 s 0 = 35 then 5 else 6























































































































































































end Go.Proofs.YtjpnhaaneaikbaaDoor

/-
  Packages link and sieveref12: Check; sievelaw12: LinkKinds.
-/
set_option linter.unusedSimpArgs false
set_option linter.unusedVariables false
set_option linter.unnecessarySimpa false
namespace Go.Proofs.YtjpnhaaneaikbaaDoor
open Go Go.Sv Go.RowKit
def neverL : List (List UInt8) := [[106, 97, 118, 97, 115, 99, 114, 105, 112, 116], [100, 97, 116, 97], [118, 98, 115, 99, 114, 105, 112, 116], [98, 108, 111, 98], [102, 105, 108, 101], [102, 105, 108, 101, 115, 121, 115, 116, 101, 109], [97, 98, 111, 117, 116]]
def neverV : List Value := neverL.map fun s => str s
/-- the variable holds what its initialiser lays -/
def Never (w : World) : Prop := Im [] w (some ⟨0, 0, none⟩) neverV
theorem Never.frm {w w' : World} (h : Never w) (hf : Frm w w') : Never w' := Im.frm h hf
theorem neverV_at {i : Nat} {x : List UInt8} (h : neverL[i]? = some x) : neverV[i]? = some (str x) := by simp [neverV, h]
def goodB12 (c : UInt8) : Bool := schB c.toNat && !upperR c.toNat
def headBad (s : List UInt8) : Bool := decide (s = []) || decide (100 < s.length) || decide (at0 s 0 < 97) || decide (122 < at0 s 0)
def checkR (s : List UInt8) : Int := if headBad s = true then 120 else if s.all goodB12 = true then (if s ∈ neverL then 120 else 0) else 120
theorem low_iff (s : List UInt8) : s = lowR s ↔ ∀ c ∈ s, upperR c.toNat = false := by
  unfold lowR
  induction s with
  | nil => simp
  | cons c t ih =>
    rw [List.map_cons, List.cons.injEq, ih]
    simp only [List.forall_mem_cons]
    refine and_congr_left fun _ => ?_
    have h256 := UInt8.toNat_lt c
    unfold lowN
    constructor
    · intro h
      cases hu : upperR c.toNat with
      | false => rfl
      | true =>
        rw [hu, if_pos rfl] at h
        have h1 := congrArg UInt8.toNat h
        have h90 : c.toNat ≤ 90 := by simp only [upperR, Bool.and_eq_true, decide_eq_true_eq] at hu; omega
        rw [UInt8.toNat_ofNat_of_lt' (by have : c.toNat + 32 < 256 := by omega
                                         simpa using this)] at h1
        omega
    · intro h
      rw [h, if_neg Bool.false_ne_true]
      simp
theorem all_take {p : UInt8 → Bool} {s : List UInt8} (h : ∀ j, j < s.length → p (UInt8.ofNat (at0 s j)) = true) : s.all p = true := by
  rw [List.all_eq_true]
  intro c hc
  obtain ⟨j, hj, rfl⟩ := List.mem_iff_getElem.1 hc
  have := h j hj
  simpa [at0, hj] using this
theorem all_at {p : UInt8 → Bool} {s : List UInt8} (h : s.all p = true) (j : Nat) (hj : j < s.length) : p (UInt8.ofNat (at0 s j)) = true := by
  rw [List.all_eq_true] at h
  have := h s[j] (List.getElem_mem hj)
  simpa [at0, hj] using this
theorem mem_never {s : List UInt8} (h : ∀ j, j < 7 → neverL[j]? ≠ some s) : s ∉ neverL := by
  intro hm
  obtain ⟨j, hj, he⟩ := List.mem_iff_getElem.1 hm
  exact h j hj (by rw [List.getElem?_eq_getElem hj, he])

theorem headBad_iff (s : List UInt8) : headBad s = true ↔ s = [] ∨ 100 < (s.length : Int) ∨ ((at0 s 0 : Nat) : Int) < 97 ∨ 122 < ((at0 s 0 : Nat) : Int) := by
  unfold headBad
  simp only [Bool.or_eq_true, decide_eq_true_eq, or_assoc]
  exact or_congr Iff.rfl (or_congr (by omega) (or_congr (by omega) (by omega)))
theorem good_of {s : List UInt8} (h : s.all goodB12 = true) {i : Nat} (hi : i < s.length) : schB (at0 s i) = true ∧ upperR (at0 s i) = false := by
  have := all_at h i hi
  have h256 := at_lt s i
  simp only [goodB12, Bool.and_eq_true, Bool.not_eq_true'] at this
  rwa [UInt8.toNat_ofNat_of_lt' (by simpa using h256)] at this
theorem good_all {s : List UInt8} (h : ∀ j, j < s.length → schB (at0 s j) = true ∧ upperR (at0 s j) = false) : s.all goodB12 = true := all_take fun j hj => by
  have h256 := at_lt s j
  simp only [goodB12, Bool.and_eq_true, Bool.not_eq_true']
  rw [UInt8.toNat_ofNat_of_lt' (by simpa using h256)]
  exact h j hj
theorem low_at {s : List UInt8} : s = lowR s ↔ ∀ j, j < s.length → upperR (at0 s j) = false := by
  rw [low_iff]
  constructor
  · intro h j hj
    have := h s[j] (List.getElem_mem hj)
    simpa [at0, hj] using this
  · intro h c hc
    obtain ⟨j, hj, rfl⟩ := List.mem_iff_getElem.1 hc
    have := h j hj
    simpa [at0, hj] using this
set_option maxHeartbeats 2000000 in
theorem check_ok (s : List UInt8) (hb : s.length ≤ 4611686018427387904) (w : World) (hG : Never w) : PureC Tryd.prog 66 #[str s] w (int (checkR s)) := by
  obtain ⟨K, e⟩ : ∃ K, K = checkR s := ⟨_, rfl⟩
  rw [← e]
  unfold checkR at e
  have h256 := at_lt s 0
  have hpos : s ≠ [] → 0 < s.length := fun h => List.length_pos_iff.2 h
  refine enter (l := [str s]) Tryd.func66 rfl Tryd.ntmps66 (by kernel_rfl) rfl ?_
  refine sgo ?_
  refine wlcallgp (vals := [str s]) (fun _ => lower_ok s hb _) fun w1 hf1 => ?_
  refine sgo ?_
  (show WC _ _ _ _ _ _ _; first | refine WC_dec rfl (fun hc => ?_) (fun hc => ?_) | refine WC_cond rfl (fun hc => ?_) (fun hc => ?_))
  · have hK : K = 120 := by
      simp only [pkb_or, Bool.or_eq_true, decide_eq_true_eq] at hc
      by_cases hh : headBad s = true
      · rw [e, if_pos hh]
      · rw [e, if_neg hh]
        have hl : s ≠ lowR s := by
          rcases hc with (((h | h) | h) | h) | h
          · exact absurd ((headBad_iff s).2 (.inl h)) hh
          · exact absurd ((headBad_iff s).2 (.inr (.inl h))) hh
          · exact absurd ((headBad_iff s).2 (.inr (.inr (.inl h)))) hh
          · exact absurd ((headBad_iff s).2 (.inr (.inr (.inr h)))) hh
          · exact h
        rw [if_neg]
        intro ha
        exact hl (low_at.2 fun j hj => (good_of ha hj).2)
    refine sgo ?_
    (first | refine fp1 (.inl rfl) rfl rfl ?_ | refine fp2 (.inl rfl) rfl rfl rfl ?_ | refine fp3 (.inl rfl) rfl rfl rfl rfl ?_ | refine fp0 (.inr rfl) rfl ?_ | refine fp0 (.inl rfl) rfl ?_ | refine fp1 (.inr rfl) rfl rfl ?_); refine ⟨?_, by (first | exact Frm.refl _ | assumption | exact Go.Sv.Sep.frm (by assumption) | (refine Frm.trans ?_ (by assumption); first | exact Frm.refl _ | assumption))⟩; (try simp only [realB, rv_true, Nat.reduceBEq, cond_true, cond_false, entG, real_lif, updGL])
    rw [hK]
  have hh : ¬ headBad s = true := by
    intro h
    rw [headBad_iff] at h
    have hc' : ¬ ((((s = [] ∨ 100 < (s.length : Int)) ∨ ((at0 s 0 : Nat) : Int) < 97) ∨ 122 < ((at0 s 0 : Nat) : Int)) ∨ s ≠ lowR s) := by
      intro h2
      have h3 : ∀ b : Bool, b = false → b = true → False := by decide
      refine h3 _ hc ?_
      simp only [pkb_or, Bool.or_eq_true, decide_eq_true_eq]
      exact h2
    exact hc' (by rcases h with h | h | h | h <;> simp [h])
  have hlow : s = lowR s := by
    by_cases h : s = lowR s
    · exact h
    · exfalso
      have h3 : ∀ b : Bool, b = false → b = true → False := by decide
      refine h3 _ hc ?_
      simp only [pkb_or, Bool.or_eq_true, decide_eq_true_eq]
      exact .inr h
  rw [if_neg hh] at e
  have hup := low_at.1 hlow
  clear hc hlow
  refine sgo ?_
  refine wcloop (X := Nat) (fun i => [(0, str s), (30, int s.length), (31, int i)]) (fun i wr => i ≤ s.length ∧ (∀ j, j < i → schB (at0 s j) = true) ∧ Frm w wr) (fun i => s.length - i) 0 ⟨rfl, rfl, rfl, trivial⟩ ⟨by omega, by omega, hf1⟩ ?_
  rintro i wr ρ ⟨hi, hj, hfr⟩
  refine sgo ?_
  (show WC _ _ _ _ _ _ _; first | refine WC_dec rfl (fun hc => ?_) (fun hc => ?_) | refine WC_cond rfl (fun hc => ?_) (fun hc => ?_))
  · have hil : i < s.length := by omega
    have h2 := at_lt s i
    clear hc
    refine sgo ?_
    refine wlpure (schemeByte_ok (at0 s i) h2 _) fun w2 hf2 => ?_
    have hfr2 := hfr.trans hf2
    refine sgo ?_
    (show WC _ _ _ _ _ _ _; first | refine WC_dec rfl (fun hc => ?_) (fun hc => ?_) | refine WC_cond rfl (fun hc => ?_) (fun hc => ?_))
    · have hb' : schB (at0 s i) = false := by simpa using hc
      have hK : K = 120 := by
        rw [e, if_neg]
        intro ha
        rw [(good_of ha hil).1] at hb'
        cases hb'
      refine sgo ?_
      (first | refine fp1 (.inl rfl) rfl rfl ?_ | refine fp2 (.inl rfl) rfl rfl rfl ?_ | refine fp3 (.inl rfl) rfl rfl rfl rfl ?_ | refine fp0 (.inr rfl) rfl ?_ | refine fp0 (.inl rfl) rfl ?_ | refine fp1 (.inr rfl) rfl rfl ?_); refine ⟨?_, by (first | exact Frm.refl _ | assumption | exact Go.Sv.Sep.frm (by assumption) | (refine Frm.trans ?_ (by assumption); first | exact Frm.refl _ | assumption))⟩; (try simp only [realB, rv_true, Nat.reduceBEq, cond_true, cond_false, entG, real_lif, updGL])
      rw [hK]
    · have hb' : schB (at0 s i) = true := by simpa using hc
      refine sgo ?_
      refine ⟨i + 1, ⟨rfl, rfl, rfl, trivial⟩, ⟨by omega, fun j hj' => ?_, hfr2⟩, by omega⟩
      rcases Nat.lt_or_ge j i with h | h
      · exact hj j h
      · obtain rfl : j = i := by omega
        exact hb'
  obtain rfl : i = s.length := by omega
  have hall : s.all goodB12 = true := good_all fun j hj' => ⟨hj j hj', hup j hj'⟩
  rw [if_pos hall] at e
  clear hc hj hup
  have hGr := hG.frm hfr
  have hnl : neverV.length = 7 := rfl
  refine sgo ?_
  refine wl ?_ (y_loada (p := some ⟨0, 0, none⟩) (i := 0) rfl hGr.sg (Nat.le_of_ble_eq_true rfl) ⟨_, rfl⟩)
  refine sgo ?_
  refine wcloop (X := Nat) (fun i => [(0, str s), (40, .agg ⟨neverV⟩), (41, int i)]) (fun i wr => i ≤ 7 ∧ (∀ j, j < i → neverL[j]? ≠ some s) ∧ Frm w wr) (fun i => 7 - i) 0 ⟨rfl, rfl, rfl, trivial⟩ ⟨by omega, by omega, hfr⟩ ?_
  clear hfr hGr
  rintro i wr2 ρ2 ⟨hi, hj, hfr⟩
  refine sgo ?_
  (show WC _ _ _ _ _ _ _; first | refine WC_dec rfl (fun hc => ?_) (fun hc => ?_) | refine WC_cond rfl (fun hc => ?_) (fun hc => ?_))
  · have hil : i < 7 := by omega
    clear hc
    obtain ⟨x, hx⟩ : ∃ x, neverL[i]? = some x := ⟨_, List.getElem?_eq_getElem (show i < neverL.length from hil)⟩
    have hxv := neverV_at hx
    refine sgo ?_
    refine wl ?_ (y_aidx (v := str x) (cs := ⟨neverV⟩) (i := i) rfl rfl hil (by simpa using hxv))
    refine sgo ?_
    (show WC _ _ _ _ _ _ _; first | refine WC_dec rfl (fun hc => ?_) (fun hc => ?_) | refine WC_cond rfl (fun hc => ?_) (fun hc => ?_))
    · have hK : K = 120 := by
        rw [e, if_pos]
        have hsx : s = x := hc
        rw [hsx]
        exact List.mem_of_getElem? hx
      refine sgo ?_
      (first | refine fp1 (.inl rfl) rfl rfl ?_ | refine fp2 (.inl rfl) rfl rfl rfl ?_ | refine fp3 (.inl rfl) rfl rfl rfl rfl ?_ | refine fp0 (.inr rfl) rfl ?_ | refine fp0 (.inl rfl) rfl ?_ | refine fp1 (.inr rfl) rfl rfl ?_); refine ⟨?_, by (first | exact Frm.refl _ | assumption | exact Go.Sv.Sep.frm (by assumption) | (refine Frm.trans ?_ (by assumption); first | exact Frm.refl _ | assumption))⟩; (try simp only [realB, rv_true, Nat.reduceBEq, cond_true, cond_false, entG, real_lif, updGL])
      rw [hK]
    · have hsx : ¬ s = x := hc
      refine sgo ?_
      refine ⟨i + 1, ⟨rfl, rfl, rfl, trivial⟩, ⟨by omega, fun j hj' => ?_, hfr⟩, by omega⟩
      rcases Nat.lt_or_ge j i with h | h
      · exact hj j h
      · obtain rfl : j = i := by omega
        rw [hx]
        intro h2
        exact hsx (Option.some.inj h2).symm
  · obtain rfl : i = 7 := by omega
    have hK : K = 0 := by rw [e, if_neg (mem_never hj)]
    refine sgo ?_
    (first | refine fp1 (.inl rfl) rfl rfl ?_ | refine fp2 (.inl rfl) rfl rfl rfl ?_ | refine fp3 (.inl rfl) rfl rfl rfl rfl ?_ | refine fp0 (.inr rfl) rfl ?_ | refine fp0 (.inl rfl) rfl ?_ | refine fp1 (.inr rfl) rfl rfl ?_); refine ⟨?_, by (first | exact Frm.refl _ | assumption | exact Go.Sv.Sep.frm (by assumption) | (refine Frm.trans ?_ (by assumption); first | exact Frm.refl _ | assumption))⟩; (try simp only [realB, rv_true, Nat.reduceBEq, cond_true, cond_false, entG, real_lif, updGL])
    rw [hK]





















































































































































end Go.Proofs.YtjpnhaaneaikbaaDoor

/-
  Package link: Allowed.
-/
set_option linter.unusedSimpArgs false
set_option linter.unusedVariables false
set_option linter.unnecessarySimpa false
namespace Go.Proofs.YtjpnhaaneaikbaaDoor
open Go Go.Sv Go.RowKit
def strV (l : List (List UInt8)) : List Value := l.map fun s => str s
/-- may a link be, where every scheme of the list is a good one -/
def allowR (v : List UInt8) (l : List (List UInt8)) (rel : Bool) : Bool :=
  if (schemeR (stripR v)).2 = true then decide (lowR ((stripR v).take (schemeR (stripR v)).1) ∈ l) else rel
end Go.Proofs.YtjpnhaaneaikbaaDoor

/-
  Package value, in plain terms: what is written stays: texts of plain runes; words.
-/
set_option linter.unusedSimpArgs false
set_option linter.unusedVariables false
set_option linter.unnecessarySimpa false
namespace Go.Proofs.YtjpnhaaneaikbaaDoor
open Go Go.Sv Go.RowKit

theorem plainR_idem (r : Nat) : plainR (plainR r) = plainR r := by
  unfold plainR
  repeat' split
  all_goals first | rfl | omega | (exfalso; omega)
/-- a text of runes that are plain -/
def PlainT (l : List UInt8) : Prop := ∃ rs : List Nat, (∀ r ∈ rs, Good r ∧ plainR r = r) ∧ l = rs.flatMap encR
theorem plain_clean {l : List UInt8} (h : PlainT l) : cleanR l = l := by
  obtain ⟨rs, hr, rfl⟩ := h
  unfold cleanR
  rw [runesN_flat rs fun r hh => (hr r hh).1]
  congr 1
  conv => rhs; rw [← List.map_id rs]
  exact List.map_congr_left fun r hh => (hr r hh).2
theorem plain_valid {l : List UInt8} (h : PlainT l) : validR l = true := by
  obtain ⟨rs, hr, rfl⟩ := h
  exact valid_flat rs fun r hh => (hr r hh).1
theorem clean_plainT (l : List UInt8) : PlainT (cleanR l) := by
  refine ⟨(runesN l).map plainR, fun r hr => ?_, rfl⟩
  refine ⟨plainR_good_all l r hr, ?_⟩
  obtain ⟨x, _, rfl⟩ := List.mem_map.1 hr
  exact plainR_idem x
theorem plain_ascii {l : List UInt8} (h : ∀ c ∈ l, 32 ≤ c.toNat ∧ c.toNat < 127) : PlainT l := by
  refine ⟨l.map UInt8.toNat, fun r hr => ?_, ?_⟩
  · obtain ⟨c, hc, rfl⟩ := List.mem_map.1 hr
    have := h c hc
    refine ⟨⟨by omega, by omega⟩, ?_⟩
    unfold plainR
    rw [if_neg (by omega), if_neg (by omega), if_neg (by omega)]
  · induction l with
    | nil => rfl
    | cons c l ih =>
      have hc := h c (by simp)
      rw [List.map_cons, List.flatMap_cons, ← ih fun x hx => h x (List.mem_cons_of_mem _ hx), encR_low (by omega), UInt8.ofNat_toNat]
      rfl
theorem strip_plain {l : List UInt8} (h : PlainT l) : PlainT (stripR l) := by
  obtain ⟨rs, hr, rfl⟩ := h
  refine ⟨stripN rs, fun r hh => hr r ?_, ?_⟩
  · unfold stripN keepN cutT cutL at hh
    have h1 := (List.mem_filter.1 hh).1
    rw [List.mem_reverse] at h1
    have h2 := (List.dropWhile_sublist _).subset h1
    rw [List.mem_reverse] at h2
    exact (List.dropWhile_sublist _).subset h2
  · unfold stripR
    rw [runesN_flat rs fun r hh => (hr r hh).1]
/-! ## small letters -/
theorem low_enc (r : Nat) (hg : Good r) : lowR (encR r) = encR (lowN r) := by
  rcases Nat.lt_or_ge r 128 with h | h
  · have hl : lowN r < 128 := by
      unfold lowN upperR
      split
      · rename_i hh; simp only [Bool.and_eq_true, decide_eq_true_eq] at hh; omega
      · exact h
    rw [encR_low h, encR_low hl]
    unfold lowR
    rw [List.map_cons, List.map_nil, UInt8.toNat_ofNat_of_lt' (Nat.lt_trans h (by decide))]
  · have hn : lowN r = r := by
      unfold lowN upperR
      rw [if_neg]
      simp only [Bool.and_eq_true, decide_eq_true_eq]; omega
    rw [hn]
    have hh := enc_hi r h hg.1
    generalize encR r = l at *
    unfold lowR
    conv => rhs; rw [← List.map_id l]
    refine List.map_congr_left fun c hc => ?_
    obtain ⟨i, hi, rfl⟩ := List.mem_iff_getElem.1 hc
    have := hh i hi
    have e : at0 l i = (l[i]).toNat := by unfold at0; rw [List.getElem?_eq_getElem hi]; rfl
    rw [e] at this
    unfold lowN upperR
    rw [if_neg]
    · rw [UInt8.ofNat_toNat]; rfl
    · simp only [Bool.and_eq_true, decide_eq_true_eq]; omega
theorem low_plain {l : List UInt8} (h : PlainT l) : PlainT (lowR l) := by
  obtain ⟨rs, hr, rfl⟩ := h
  refine ⟨rs.map lowN, fun r hh => ?_, ?_⟩
  · obtain ⟨x, hx, rfl⟩ := List.mem_map.1 hh
    obtain ⟨h1, h2⟩ := hr x hx
    unfold lowN upperR
    split
    · rename_i hu
      simp only [Bool.and_eq_true, decide_eq_true_eq] at hu
      refine ⟨⟨by omega, by omega⟩, ?_⟩
      unfold plainR
      rw [if_neg (by omega), if_neg (by omega), if_neg (by omega)]
    · exact ⟨h1, h2⟩
  · have : ∀ rs : List Nat, (∀ r ∈ rs, Good r) → lowR (rs.flatMap encR) = (rs.map lowN).flatMap encR := by
      intro rs
      induction rs with
      | nil => intro _; rfl
      | cons r rs ih =>
        intro hg
        rw [List.flatMap_cons, List.map_cons, List.flatMap_cons, ← ih fun x hx => hg x (List.mem_cons_of_mem _ hx), ← low_enc r (hg r (by simp))]
        unfold lowR
        rw [List.map_append]
    exact this rs fun r hh => (hr r hh).1
theorem low_low (l : List UInt8) : lowR (lowR l) = lowR l := by
  unfold lowR
  rw [List.map_map]
  refine List.map_congr_left fun c _ => ?_
  have hc := c.toNat_lt
  simp only [Function.comp]
  have h3 : lowN c.toNat < 256 := by
    unfold lowN upperR
    split
    · rename_i hh; simp only [Bool.and_eq_true, decide_eq_true_eq] at hh; omega
    · omega
  rw [UInt8.toNat_ofNat_of_lt' (by simpa using h3)]
  congr 1
  unfold lowN upperR
  split
  · rename_i hh
    simp only [Bool.and_eq_true, decide_eq_true_eq] at hh
    rw [if_neg (by simp; omega)]
  · rfl
/-! ## words -/
theorem fields_good : ∀ (l cur : List UInt8), (∀ c ∈ cur, blkR c = false) → ∀ x ∈ fgo cur l, x ≠ [] ∧ ∀ c ∈ x, blkR c = false
  | [], cur, hc, x, hx => by
    unfold fgo at hx
    split at hx
    · simp at hx
    · rename_i hne
      rw [List.mem_singleton.1 hx]
      exact ⟨hne, hc⟩
  | b :: l, cur, hc, x, hx => by
    unfold fgo at hx
    split at hx
    · split at hx
      · exact fields_good l [] (by simp) x hx
      · rename_i hne
        rcases List.mem_cons.1 hx with rfl | hx
        · exact ⟨hne, hc⟩
        · exact fields_good l [] (by simp) x hx
    · rename_i hb
      refine fields_good l (cur ++ [b]) (fun c hcc => ?_) x hx
      rcases List.mem_append.1 hcc with hcc | hcc
      · exact hc c hcc
      · rw [List.mem_singleton.1 hcc]
        simpa using hb
/-- words that are joined by spaces are the words -/
theorem fields_join : ∀ F : List (List UInt8), (∀ x ∈ F, x ≠ [] ∧ ∀ c ∈ x, blkR c = false) → fieldsR (joinR [32] F) = F := by
  have key : ∀ (F : List (List UInt8)) (x : List UInt8), x ≠ [] → (∀ c ∈ x, blkR c = false) → (∀ y ∈ F, y ≠ [] ∧ ∀ c ∈ y, blkR c = false) → fgo [] (x ++ F.flatMap fun y => [32] ++ y) = x :: F := by
    intro F
    induction F with
    | nil =>
      intro x hx hb _
      rw [List.flatMap_nil, fgo_nb x [] [] hb, List.nil_append, fgo, if_neg hx]
    | cons y F ih =>
      intro x hx hb hF
      have hy := hF y (by simp)
      rw [fgo_nb x [] _ hb, List.nil_append, List.flatMap_cons]
      show fgo x (32 :: (y ++ F.flatMap fun y => [32] ++ y)) = _
      rw [fgo, if_pos (by decide), if_neg hx, ih y hy.1 hy.2 fun z hz => hF z (List.mem_cons_of_mem _ hz)]
  intro F hF
  cases F with
  | nil => rfl
  | cons x F =>
    have hx := hF x (by simp)
    exact key F x hx.1 hx.2 fun y hy => hF y (List.mem_cons_of_mem _ hy)
theorem toks_toks (v : List UInt8) : fieldsR (toksR v) = fieldsR v := fields_join _ (fields_good v [] (by simp))
theorem toks_idem (v : List UInt8) : toksR (toksR v) = toksR v := by
  unfold toksR
  have := toks_toks v
  unfold toksR at this
  rw [this]
/-- words of a plain text are plain -/
theorem fields_plain : ∀ (rs : List Nat) (cs : List Nat), (∀ r ∈ rs, Good r ∧ plainR r = r) → (∀ r ∈ cs, Good r ∧ plainR r = r) → ∀ x ∈ fgo (cs.flatMap encR) (rs.flatMap encR), PlainT x
  | [], cs, _, hc, x, hx => by
    rw [List.flatMap_nil] at hx
    unfold fgo at hx
    split at hx
    · simp at hx
    · rw [List.mem_singleton.1 hx]
      exact ⟨cs, hc, rfl⟩
  | r :: rs, cs, hr, hc, x, hx => by
    have hg := (hr r (by simp)).1
    have hrs := fun y hy => hr y (List.mem_cons_of_mem r hy)
    have hl := encR_len4 r
    rw [List.flatMap_cons] at hx
    have hpe := piece_enc r hg (rs.flatMap encR)
    have h0 : 0 < (encR r ++ rs.flatMap encR).length := by rw [List.length_append]; omega
    have hb := blk_piece h0 (right_of _ (by rw [hpe]))
    rw [hpe, List.take_left] at hb
    dsimp only at hb
    rw [Int.toNat_natCast] at hb
    rcases hb with ⟨hbl, hone, b, rest, hbr, hbb⟩ | ⟨_, hnb⟩
    · have hen : encR r = [b] := by
        cases he : encR r with
        | nil => rw [he] at hl; simp at hl
        | cons y t =>
          rw [he] at hbr hone
          simp only [List.length_cons] at hone
          have ht : t = [] := List.eq_nil_of_length_eq_zero (by omega)
          rw [List.cons_append] at hbr
          injection hbr with h1 h2
          rw [ht, h1]
      rw [hen] at hx
      change x ∈ fgo (cs.flatMap encR) (b :: rs.flatMap encR) at hx
      rw [fgo, if_pos hbb] at hx
      have hrec := fields_plain rs [] hrs (by simp)
      rw [List.flatMap_nil] at hrec
      split at hx
      · exact hrec x hx
      · rcases List.mem_cons.1 hx with rfl | hx
        · exact ⟨cs, hc, rfl⟩
        · exact hrec x hx
    · rw [fgo_nb _ _ _ hnb] at hx
      have e : cs.flatMap encR ++ encR r = (cs ++ [r]).flatMap encR := by rw [List.flatMap_append]; simp
      rw [e] at hx
      refine fields_plain rs (cs ++ [r]) hrs (fun y hy => ?_) x hx
      rcases List.mem_append.1 hy with hy | hy
      · exact hc y hy
      · rw [List.mem_singleton.1 hy]; exact hr r (by simp)
theorem plain_app {a b : List UInt8} (ha : PlainT a) (hb : PlainT b) : PlainT (a ++ b) := by
  obtain ⟨ra, h1, rfl⟩ := ha
  obtain ⟨rb, h2, rfl⟩ := hb
  exact ⟨ra ++ rb, fun r hr => (List.mem_append.1 hr).elim (h1 r) (h2 r), (List.flatMap_append ..).symm⟩
theorem toks_plain {v : List UInt8} (h : PlainT v) : PlainT (toksR v) := by
  obtain ⟨rs, hr, rfl⟩ := h
  have hf : ∀ x ∈ fieldsR (rs.flatMap encR), PlainT x := fields_plain rs [] hr (by simp)
  have h32 : PlainT [32] := plain_ascii (by intro c hc; rw [List.mem_singleton.1 hc]; decide)
  unfold toksR
  generalize fieldsR (rs.flatMap encR) = F at *
  cases F with
  | nil => exact ⟨[], by simp, rfl⟩
  | cons x F =>
    have hx := hf x (by simp)
    have hF := fun y hy => hf y (List.mem_cons_of_mem x hy)
    show PlainT (x ++ F.flatMap fun y => [32] ++ y)
    refine plain_app hx ?_
    clear hx hf
    induction F with
    | nil => exact ⟨[], by simp, rfl⟩
    | cons y F ih =>
      rw [List.flatMap_cons]
      exact plain_app (plain_app h32 (hF y (by simp))) (ih fun z hz => hF z (List.mem_cons_of_mem _ hz))
end Go.Proofs.YtjpnhaaneaikbaaDoor

/-
  Package value: the kinds, one by one.
-/
set_option linter.unusedSimpArgs false
set_option linter.unusedVariables false
set_option linter.unnecessarySimpa false
namespace Go.Proofs.YtjpnhaaneaikbaaDoor
open Go Go.Sv Go.RowKit

theorem vLetter_ok (c : Nat) (w : World) : PureC Tryd.prog 52 #[byt c] w (.bool (letterR c)) := by
  refine enter (l := [byt c]) Tryd.func52 rfl Tryd.ntmps52 (by kernel_rfl) rfl ?_
  refine sgo ?_
  (first | refine fp1 (.inl rfl) rfl rfl ?_ | refine fp2 (.inl rfl) rfl rfl rfl ?_ | refine fp3 (.inl rfl) rfl rfl rfl rfl ?_ | refine fp0 (.inr rfl) rfl ?_ | refine fp0 (.inl rfl) rfl ?_ | refine fp1 (.inr rfl) rfl rfl ?_); refine ⟨?_, by (first | exact Frm.refl _ | assumption | exact Go.Sv.Sep.frm (by assumption) | (refine Frm.trans ?_ (by assumption); first | exact Frm.refl _ | assumption))⟩; (try simp only [realB, rv_true, Nat.reduceBEq, cond_true, cond_false, entG, real_lif, updGL])
  refine congrArg Value.bool ?_
  unfold letterR upperR
  rw [Bool.eq_iff_iff]
  simp only [pkb_or, pkb_and, Bool.or_eq_true, Bool.and_eq_true, decide_eq_true_eq]
  omega
section
variable (nm : List UInt8) (k : Int) (wp : Option Addr) (wn wc : Nat) (sp : Option Addr) (sn sc : Nat) (rel : Bool) (v : List UInt8)
theorem takAny_ok (w : World) : PureC Tryd.prog 38 #[.agg ⟨takV nm k wp wn wc sp sn sc rel⟩, str v] w (.tuple #[str v, .bool true]) := by
  refine enter (l := [.agg ⟨takV nm k wp wn wc sp sn sc rel⟩, str v]) Tryd.func38 rfl Tryd.ntmps38 (by kernel_rfl) rfl ?_
  have hS := Sep.start w
  refine sgo ?_
  refine sbox hS fun b2 w1 hS => ?_
  refine sgo ?_
  have hf := hS.frm
  (first | refine fp1 (.inl rfl) rfl rfl ?_ | refine fp2 (.inl rfl) rfl rfl rfl ?_ | refine fp3 (.inl rfl) rfl rfl rfl rfl ?_ | refine fp0 (.inr rfl) rfl ?_ | refine fp0 (.inl rfl) rfl ?_ | refine fp1 (.inr rfl) rfl rfl ?_); refine ⟨?_, by (first | exact Frm.refl _ | assumption | exact Go.Sv.Sep.frm (by assumption) | (refine Frm.trans ?_ (by assumption); first | exact Frm.refl _ | assumption))⟩; (try simp only [realB, rv_true, Nat.reduceBEq, cond_true, cond_false, entG, real_lif, updGL])
  all_goals rfl
theorem takFlag_ok (w : World) : PureC Tryd.prog 46 #[.agg ⟨takV nm k wp wn wc sp sn sc rel⟩, str v] w (.tuple #[str [], .bool true]) := by
  refine enter (l := [.agg ⟨takV nm k wp wn wc sp sn sc rel⟩, str v]) Tryd.func46 rfl Tryd.ntmps46 (by kernel_rfl) rfl ?_
  have hS := Sep.start w
  refine sgo ?_
  refine sbox hS fun b2 w1 hS => ?_
  refine sgo ?_
  have hf := hS.frm
  (first | refine fp1 (.inl rfl) rfl rfl ?_ | refine fp2 (.inl rfl) rfl rfl rfl ?_ | refine fp3 (.inl rfl) rfl rfl rfl rfl ?_ | refine fp0 (.inr rfl) rfl ?_ | refine fp0 (.inl rfl) rfl ?_ | refine fp1 (.inr rfl) rfl rfl ?_); refine ⟨?_, by (first | exact Frm.refl _ | assumption | exact Go.Sv.Sep.frm (by assumption) | (refine Frm.trans ?_ (by assumption); first | exact Frm.refl _ | assumption))⟩; (try simp only [realB, rv_true, Nat.reduceBEq, cond_true, cond_false, entG, real_lif, updGL])
  all_goals rfl
end
/-! ## names -/
def nmB (c : Nat) : Bool := letterR c || (digitR c || (decide (c = 45) || (decide (c = 95) || (decide (c = 58) || decide (c = 46)))))
def nameB (v : List UInt8) : Bool := !decide (v = []) && (decide (v.length ≤ 100) && (letterR (at0 v 0) && v.all fun c => nmB c.toNat))
def okV (r : List UInt8 × Bool) : Value := .tuple #[str r.1, .bool r.2]
def nameT (v : List UInt8) : List UInt8 × Bool := if nameB v = true then (v, true) else ([], false)
section
variable (nm : List UInt8) (k : Int) (wp : Option Addr) (wn wc : Nat) (sp : Option Addr) (sn sc : Nat) (rel : Bool) (v : List UInt8)
set_option maxHeartbeats 1000000 in
theorem takName_ok (hb : v.length ≤ 1073741824) (w : World) : PureC Tryd.prog 40 #[.agg ⟨takV nm k wp wn wc sp sn sc rel⟩, str v] w (okV (nameT v)) := by
  unfold nameT nameB
  have hne : ¬ v = [] → 0 < v.length := fun h => List.length_pos_iff.2 h
  refine enter (l := [.agg ⟨takV nm k wp wn wc sp sn sc rel⟩, str v]) Tryd.func40 rfl Tryd.ntmps40 (by kernel_rfl) rfl ?_
  have hS := Sep.start w
  refine sgo ?_
  refine sbox hS fun b2 w1 hS => ?_
  have hf := hS.frm
  clear hS
  refine sgo ?_
  have hlet := fun w => vLetter_ok (v[0]?.getD 0).toNat w
  generalize hc0 : (v[0]?.getD 0).toNat = c0 at *
  refine wlcallgp (vals := [byt c0]) (fun _ => hlet _) fun w2 hf2 => ?_
  replace hf := hf.trans hf2
  clear hf2
  refine sgo ?_
  refine WC_cond rfl (fun hc => ?_) (fun hc => ?_)
  · have hno : (!decide (v = []) && (decide (v.length ≤ 100) && (letterR (at0 v 0) && v.all fun c => nmB c.toNat))) = false := by
      have h0 : at0 v 0 = c0 := hc0
      rw [h0]
      revert hc
      simp only [pkb_or, Bool.or_eq_true, decide_eq_true_eq, Bool.not_eq_true']
      rintro ((h | h) | h)
      · simp [h]
      · have : ¬ v.length ≤ 100 := by omega
        simp [this]
      · simp [h]
    rw [hno]
    refine sgo ?_
    (first | refine fp1 (.inl rfl) rfl rfl ?_ | refine fp2 (.inl rfl) rfl rfl rfl ?_ | refine fp3 (.inl rfl) rfl rfl rfl rfl ?_ | refine fp0 (.inr rfl) rfl ?_ | refine fp0 (.inl rfl) rfl ?_ | refine fp1 (.inr rfl) rfl rfl ?_); refine ⟨?_, by (first | exact Frm.refl _ | assumption | exact Go.Sv.Sep.frm (by assumption) | (refine Frm.trans ?_ (by assumption); first | exact Frm.refl _ | assumption))⟩; (try simp only [realB, rv_true, Nat.reduceBEq, cond_true, cond_false, entG, real_lif, updGL])
    all_goals rfl
  have hyes : ¬ v = [] ∧ v.length ≤ 100 ∧ letterR (at0 v 0) = true := by
    have h0 : at0 v 0 = c0 := hc0
    rw [h0]
    revert hc
    simp only [pkb_or, Bool.or_eq_false_iff, decide_eq_false_iff_not, Bool.not_eq_false']
    rintro ⟨⟨h1, h2⟩, h3⟩
    exact ⟨h1, by omega, h3⟩
  obtain ⟨h1, h2, h3⟩ := hyes
  have e : (!decide (v = []) && (decide (v.length ≤ 100) && (letterR (at0 v 0) && v.all fun c => nmB c.toNat))) = v.all fun c => nmB c.toNat := by simp [h1, h2, h3]
  rw [e]
  clear hc e
  refine sgo ?_
  refine wcloop (X := Nat) (fun i => [(1, str v), (22, int v.length), (23, int i)])
    (fun i w' => i ≤ v.length ∧ (v.all fun c => nmB c.toNat) = ((v.drop i).all fun c => nmB c.toNat) ∧ Frm w w') (fun i => v.length - i) 0 ⟨rfl, rfl, rfl, trivial⟩ ⟨Nat.zero_le _, rfl, hf⟩ ?_
  clear hf
  rintro i wr ρ ⟨hil, hall, hf⟩
  refine sgo ?_
  (show WC _ _ _ _ _ _ _; first | refine WC_dec rfl (fun hc => ?_) (fun hc => ?_) | refine WC_cond rfl (fun hc => ?_) (fun hc => ?_))
  · have hlt : i < v.length := by omega
    rw [List.drop_eq_getElem_cons hlt, List.all_cons] at hall
    have hx : v[i]?.getD 0 = v[i] := by rw [List.getElem?_eq_getElem hlt]; rfl
    clear hc
    refine sgo ?_
    rw [hx]
    refine wlpure (vLetter_ok _ _) fun w2 hf2 => ?_
    replace hf := hf.trans hf2
    clear hf2
    refine sgo ?_
    refine wlcallgp (vals := [byt (v[i]).toNat]) (fun _ => vDigit_ok _ _) fun w2 hf2 => ?_
    replace hf := hf.trans hf2
    clear hf2
    refine sgo ?_
    have hnm : nmB (v[i]).toNat = !(pkb (pkb (pkb (pkb (pkb (!letterR (v[i]).toNat) (!digitR (v[i]).toNat) false) (decide (((v[i]).toNat : Int) ≠ 45)) false) (decide (((v[i]).toNat : Int) ≠ 95)) false) (decide (((v[i]).toNat : Int) ≠ 58)) false) (decide (((v[i]).toNat : Int) ≠ 46)) false) := by
      unfold nmB
      generalize (v[i]).toNat = c
      generalize letterR c = a
      generalize digitR c = b
      cases a <;> cases b <;> simp [pkb] <;> (rw [Bool.eq_iff_iff]; simp; omega)
    refine WC_cond rfl (fun hc => ?_) (fun hc => ?_)
    · rw [hc] at hnm
      rw [hnm, Bool.not_true, Bool.false_and] at hall
      rw [hall]
      refine sgo ?_
      (first | refine fp1 (.inl rfl) rfl rfl ?_ | refine fp2 (.inl rfl) rfl rfl rfl ?_ | refine fp3 (.inl rfl) rfl rfl rfl rfl ?_ | refine fp0 (.inr rfl) rfl ?_ | refine fp0 (.inl rfl) rfl ?_ | refine fp1 (.inr rfl) rfl rfl ?_); refine ⟨?_, by (first | exact Frm.refl _ | assumption | exact Go.Sv.Sep.frm (by assumption) | (refine Frm.trans ?_ (by assumption); first | exact Frm.refl _ | assumption))⟩; (try simp only [realB, rv_true, Nat.reduceBEq, cond_true, cond_false, entG, real_lif, updGL])
      all_goals rfl
    · rw [hc] at hnm
      rw [hnm, Bool.not_false, Bool.true_and] at hall
      refine sgo ?_
      exact ⟨i + 1, ⟨rfl, rfl, rfl, trivial⟩, ⟨by omega, hall, hf⟩, by omega⟩
  · obtain rfl : i = v.length := by omega
    rw [List.drop_length, List.all_nil] at hall
    rw [hall]
    refine sgo ?_
    (first | refine fp1 (.inl rfl) rfl rfl ?_ | refine fp2 (.inl rfl) rfl rfl rfl ?_ | refine fp3 (.inl rfl) rfl rfl rfl rfl ?_ | refine fp0 (.inr rfl) rfl ?_ | refine fp0 (.inl rfl) rfl ?_ | refine fp1 (.inr rfl) rfl rfl ?_); refine ⟨?_, by (first | exact Frm.refl _ | assumption | exact Go.Sv.Sep.frm (by assumption) | (refine Frm.trans ?_ (by assumption); first | exact Frm.refl _ | assumption))⟩; (try simp only [realB, rv_true, Nat.reduceBEq, cond_true, cond_false, entG, real_lif, updGL])
    all_goals rfl
end
end Go.Proofs.YtjpnhaaneaikbaaDoor

/-
  Package value: the kinds number and length.
-/
set_option linter.unusedSimpArgs false
set_option linter.unusedVariables false
set_option linter.unnecessarySimpa false
namespace Go.Proofs.YtjpnhaaneaikbaaDoor
open Go Go.Sv Go.RowKit

/-- without the noughts ahead -/
def shortR : List UInt8 → List UInt8
  | [] => []
  | [a] => [a]
  | a :: b :: l => if a.toNat = 48 then shortR (b :: l) else a :: b :: l
def numT (v : List UInt8) : List UInt8 × Bool := if (numR v).isSome = true then (shortR v, true) else ([], false)
theorem shortR_len : ∀ v : List UInt8, (shortR v).length ≤ v.length
  | [] => Nat.le_refl _
  | [a] => Nat.le_refl _
  | a :: b :: l => by
    have := shortR_len (b :: l)
    unfold shortR
    split
    · simp only [List.length_cons] at *; omega
    · exact Nat.le_refl _
theorem shortR_step {v : List UInt8} (h1 : 1 < v.length) (h2 : (v[0]?.getD 0).toNat = 48) : shortR v = shortR (v.drop 1) := by
  obtain _ | ⟨a, _ | ⟨b, l⟩⟩ := v
  · simp at h1
  · simp at h1
  · have h2' : a.toNat = 48 := h2
    rw [shortR, if_pos h2']
    rfl
theorem shortR_stop {v : List UInt8} (h : ¬ (1 < v.length ∧ (v[0]?.getD 0).toNat = 48)) : shortR v = v := by
  obtain _ | ⟨a, _ | ⟨b, l⟩⟩ := v
  · rfl
  · rfl
  · rw [shortR, if_neg]
    intro hh
    exact h ⟨by simp, hh⟩
theorem shortR_idem : ∀ v : List UInt8, shortR (shortR v) = shortR v
  | [] => rfl
  | [a] => rfl
  | a :: b :: l => by
    have := shortR_idem (b :: l)
    by_cases h : a.toNat = 48
    · rw [shortR, if_pos h, this]
    · rw [shortR, if_neg h, shortR, if_neg h]
theorem numG_some : ∀ (v : List UInt8) (n : Nat), (numG v n).isSome = v.all fun c => digitR c.toNat
  | [], n => rfl
  | c :: l, n => by
    rw [numG, List.all_cons]
    by_cases h : digitR c.toNat = true
    · rw [if_pos h, h, Bool.true_and, numG_some]
    · rw [if_neg h]
      simp [h]
theorem numR_some (v : List UInt8) : (numR v).isSome = (decide (1 ≤ v.length ∧ v.length ≤ 9) && v.all fun c => digitR c.toNat) := by
  unfold numR
  split
  · rename_i h
    have : ¬ (1 ≤ v.length ∧ v.length ≤ 9) := by omega
    simp [this]
  · rename_i h
    have : 1 ≤ v.length ∧ v.length ≤ 9 := by omega
    rw [numG_some]
    simp [this]
theorem shortR_all (p : UInt8 → Bool) : ∀ v : List UInt8, v.all p = true → (shortR v).all p = true
  | [], h => h
  | [a], h => h
  | a :: b :: l, h => by
    rw [List.all_cons, Bool.and_eq_true] at h
    have := shortR_all p (b :: l) h.2
    unfold shortR
    split
    · exact this
    · rw [List.all_cons, h.1, h.2]; rfl
theorem shortR_pos : ∀ v : List UInt8, 1 ≤ v.length → 1 ≤ (shortR v).length
  | [], h => h
  | [a], h => h
  | a :: b :: l, h => by
    have := shortR_pos (b :: l) (by simp)
    unfold shortR
    split
    · exact this
    · simp
theorem numT_idem {v : List UInt8} (h : (numT v).2 = true) : numT (numT v).1 = ((numT v).1, true) := by
  unfold numT at h ⊢
  split at h
  · rename_i hs
    rw [if_pos hs]
    have hs2 : (numR (shortR v)).isSome = true := by
      rw [numR_some, Bool.and_eq_true, decide_eq_true_eq] at hs ⊢
      exact ⟨⟨shortR_pos v hs.1.1, Nat.le_trans (shortR_len v) hs.1.2⟩, shortR_all _ v hs.2⟩
    dsimp only
    rw [if_pos hs2, shortR_idem]
  · simp at h
theorem numT_plain {v : List UInt8} (h : (numT v).2 = true) : ∀ c ∈ (numT v).1, digitR c.toNat = true := by
  unfold numT at h ⊢
  split at h
  · rename_i hs
    rw [if_pos hs]
    rw [numR_some, Bool.and_eq_true] at hs
    exact List.all_eq_true.1 (shortR_all _ v hs.2)
  · simp at h
section
variable (nm : List UInt8) (k : Int) (wp : Option Addr) (wn wc : Nat) (sp : Option Addr) (sn sc : Nat) (rel : Bool) (v : List UInt8)
set_option maxHeartbeats 1000000 in
theorem takNumber_ok (hb : v.length ≤ 1073741824) (w : World) : PureC Tryd.prog 41 #[.agg ⟨takV nm k wp wn wc sp sn sc rel⟩, str v] w (okV (numT v)) := by
  unfold numT
  have hd := fun w => digits_ok v hb w
  generalize numR v = r at *
  refine enter (l := [.agg ⟨takV nm k wp wn wc sp sn sc rel⟩, str v]) Tryd.func41 rfl Tryd.ntmps41 (by kernel_rfl) rfl ?_
  have hS := Sep.start w
  refine sgo ?_
  refine sbox hS fun b2 w1 hS => ?_
  have hf := hS.frm
  clear hS
  refine sgo ?_
  refine wlpure (hd _) fun w2 hf2 => ?_
  replace hf := hf.trans hf2
  clear hf2 hd
  cases r with
  | none =>
    unfold numV
    refine sgo ?_
    (first | refine fp1 (.inl rfl) rfl rfl ?_ | refine fp2 (.inl rfl) rfl rfl rfl ?_ | refine fp3 (.inl rfl) rfl rfl rfl rfl ?_ | refine fp0 (.inr rfl) rfl ?_ | refine fp0 (.inl rfl) rfl ?_ | refine fp1 (.inr rfl) rfl rfl ?_); refine ⟨?_, by (first | exact Frm.refl _ | assumption | exact Go.Sv.Sep.frm (by assumption) | (refine Frm.trans ?_ (by assumption); first | exact Frm.refl _ | assumption))⟩; (try simp only [realB, rv_true, Nat.reduceBEq, cond_true, cond_false, entG, real_lif, updGL])
    all_goals rfl
  | some n =>
    unfold numV
    refine sgo ?_
    refine wcloop (X := List UInt8) (fun l => [(1, str l)])
      (fun l w' => shortR l = shortR v ∧ l.length ≤ v.length ∧ Frm w w') (fun l => l.length) v ⟨rfl, trivial⟩ ⟨rfl, Nat.le_refl _, hf⟩ ?_
    clear hf
    rintro l wr ρ ⟨hl, hll, hf⟩
    refine sgo ?_
    refine WC_cond rfl (fun hc => ?_) (fun hc => ?_)
    · simp only [pkb_and, Bool.and_eq_true, decide_eq_true_eq] at hc
      have h1 : 1 < l.length := by omega
      have h48 : (l[0]?.getD 0).toNat = 48 := by omega
      clear hc
      refine sgo ?_
      refine ⟨l.drop 1, ⟨rfl, trivial⟩, ⟨(shortR_step h1 h48).symm.trans hl, by simp only [List.length_drop]; omega, hf⟩, by simp only [List.length_drop]; omega⟩
    · have hst : shortR l = l := shortR_stop (by
        rintro ⟨h1, h2⟩
        simp only [pkb_and, Bool.and_eq_false_iff, decide_eq_false_iff_not] at hc
        omega)
      clear hc
      refine sgo ?_
      (first | refine fp1 (.inl rfl) rfl rfl ?_ | refine fp2 (.inl rfl) rfl rfl rfl ?_ | refine fp3 (.inl rfl) rfl rfl rfl rfl ?_ | refine fp0 (.inr rfl) rfl ?_ | refine fp0 (.inl rfl) rfl ?_ | refine fp1 (.inr rfl) rfl rfl ?_); refine ⟨?_, by (first | exact Frm.refl _ | assumption | exact Go.Sv.Sep.frm (by assumption) | (refine Frm.trans ?_ (by assumption); first | exact Frm.refl _ | assumption))⟩; (try simp only [realB, rv_true, Nat.reduceBEq, cond_true, cond_false, entG, real_lif, updGL])
      all_goals (rw [hst] at hl; rw [hl]; rfl)
end
/-! ## lengths -/
theorem cutSuffix_ok (s p : List UInt8) (hb : s.length ≤ 1073741824) (w : World) : PureC Tryd.prog 53 #[str s, str p] w (okV (Lib.trimSuffix s p, Lib.hasSuffix s p)) := by
  refine Calls.mono (Tryd.strings_CutSuffix ⟨s.toArray⟩ ⟨p.toArray⟩ w (by rw [ByteArray.size]; simp; omega)) ?_
  rintro e w' ⟨rfl, rfl⟩
  exact ⟨_, rfl, rfl, Frm.refl _⟩
def lenT (v : List UInt8) : List UInt8 × Bool :=
  if (numT (Lib.trimSuffix v [37])).2 = true then (if Lib.hasSuffix v [37] = true then (numT (Lib.trimSuffix v [37])).1 ++ [37] else (numT (Lib.trimSuffix v [37])).1, true) else ([], false)
theorem suf_app (d p : List UInt8) : Lib.hasSuffix (d ++ p) p = true := by
  unfold Lib.hasSuffix
  exact List.isSuffixOf_iff_suffix.2 (List.suffix_append d p)
theorem trim_app (d p : List UInt8) : Lib.trimSuffix (d ++ p) p = d := by
  unfold Lib.trimSuffix
  rw [if_pos (suf_app d p), List.length_append, Nat.add_sub_cancel, List.take_left]
theorem suf_no {d : List UInt8} (h : ∀ c ∈ d, digitR c.toNat = true) : Lib.hasSuffix d [37] = false := by
  rw [Bool.eq_false_iff]
  intro hs
  unfold Lib.hasSuffix at hs
  obtain ⟨t, ht⟩ := List.isSuffixOf_iff_suffix.1 hs
  have := digit_rng (h 37 (by rw [← ht]; simp))
  exact absurd this.1 (by decide)
theorem lenT_idem {v : List UInt8} (h : (lenT v).2 = true) : lenT (lenT v).1 = ((lenT v).1, true) := by
  unfold lenT at h
  split at h
  · rename_i hs
    have e := numT_idem hs
    have hp := numT_plain hs
    have hv : (lenT v).1 = if Lib.hasSuffix v [37] = true then (numT (Lib.trimSuffix v [37])).1 ++ [37] else (numT (Lib.trimSuffix v [37])).1 := by
      unfold lenT
      rw [if_pos hs]
    rw [hv]
    clear hv h
    generalize (numT (Lib.trimSuffix v [37])).1 = d at *
    split
    · unfold lenT
      rw [trim_app, suf_app, e]
      rfl
    · have ht : Lib.trimSuffix d [37] = d := by
        unfold Lib.trimSuffix
        rw [suf_no hp]
        rfl
      unfold lenT
      rw [ht, suf_no hp, e]
      rfl
  · simp at h
theorem lenT_plain {v : List UInt8} (h : (lenT v).2 = true) : ∀ c ∈ (lenT v).1, 32 ≤ c.toNat ∧ c.toNat < 127 := by
  unfold lenT at h ⊢
  split at h
  · rename_i hs
    have hp : ∀ c ∈ (numT (Lib.trimSuffix v [37])).1, 32 ≤ c.toNat ∧ c.toNat < 127 := fun c hc => by
      have := digit_rng (numT_plain hs c hc)
      omega
    rw [if_pos hs]
    intro c hc
    split at hc
    · rw [List.mem_append] at hc
      obtain hc | hc := hc
      · exact hp c hc
      · rw [List.mem_singleton] at hc
        rw [hc]; decide
    · exact hp c hc
  · simp at h
theorem trim_len (s p : List UInt8) : (Lib.trimSuffix s p).length ≤ s.length := by
  unfold Lib.trimSuffix
  split
  · rw [List.length_take]; omega
  · exact Nat.le_refl _
theorem numT_len (v : List UInt8) : (numT v).1.length ≤ v.length := by
  unfold numT
  split
  · exact shortR_len v
  · exact Nat.zero_le _
section
variable (nm : List UInt8) (k : Int) (wp : Option Addr) (wn wc : Nat) (sp : Option Addr) (sn sc : Nat) (rel : Bool) (v : List UInt8)
set_option maxHeartbeats 1000000 in
theorem takLength_ok (hb : v.length ≤ 1073741824) (w : World) : PureC Tryd.prog 42 #[.agg ⟨takV nm k wp wn wc sp sn sc rel⟩, str v] w (okV (lenT v)) := by
  unfold lenT
  have ht := trim_len v [37]
  have hn := numT_len (Lib.trimSuffix v [37])
  have hcut := fun w => cutSuffix_ok v [37] hb w
  have hnum := fun w => takNumber_ok nm k wp wn wc sp sn sc rel (Lib.trimSuffix v [37]) (by omega) w
  have hno : (numT (Lib.trimSuffix v [37])).2 = false → (numT (Lib.trimSuffix v [37])).1 = [] := by
    unfold numT
    split
    · simp
    · simp
  generalize hr : numT (Lib.trimSuffix v [37]) = r at *
  generalize Lib.trimSuffix v [37] = fr at *
  generalize Lib.hasSuffix v [37] = per at *
  obtain ⟨d, ok⟩ := r
  dsimp only at *
  refine enter (l := [.agg ⟨takV nm k wp wn wc sp sn sc rel⟩, str v]) Tryd.func42 rfl Tryd.ntmps42 (by kernel_rfl) rfl ?_
  have hS := Sep.start w
  refine sgo ?_
  refine sbox hS fun b2 w1 hS => ?_
  replace hS : Sep w w1 [pOwn b2 (takV nm k wp wn wc sp sn sc rel)] := hS
  unfold takV at hS
  refine sgo ?_
  refine wlpure (hcut _) fun w2 hf2 => ?_
  replace hS := hS.grow hf2
  unfold okV
  dsimp only
  refine sgo ?_
  have hf := hS.frm
  clear hS
  refine wlpure (hnum _) fun w3 hf3 => ?_
  replace hf := hf.trans hf3
  clear hf3 hnum hcut
  unfold okV
  dsimp only
  refine sgo ?_
  cases ok with
  | false =>
    obtain rfl := hno rfl
    cases per with
    | false =>
      refine sgo ?_
      (first | refine fp1 (.inl rfl) rfl rfl ?_ | refine fp2 (.inl rfl) rfl rfl rfl ?_ | refine fp3 (.inl rfl) rfl rfl rfl rfl ?_ | refine fp0 (.inr rfl) rfl ?_ | refine fp0 (.inl rfl) rfl ?_ | refine fp1 (.inr rfl) rfl rfl ?_); refine ⟨?_, by (first | exact Frm.refl _ | assumption | exact Go.Sv.Sep.frm (by assumption) | (refine Frm.trans ?_ (by assumption); first | exact Frm.refl _ | assumption))⟩; (try simp only [realB, rv_true, Nat.reduceBEq, cond_true, cond_false, entG, real_lif, updGL])
      all_goals rfl
    | true =>
      refine sgo ?_
      (first | refine fp1 (.inl rfl) rfl rfl ?_ | refine fp2 (.inl rfl) rfl rfl rfl ?_ | refine fp3 (.inl rfl) rfl rfl rfl rfl ?_ | refine fp0 (.inr rfl) rfl ?_ | refine fp0 (.inl rfl) rfl ?_ | refine fp1 (.inr rfl) rfl rfl ?_); refine ⟨?_, by (first | exact Frm.refl _ | assumption | exact Go.Sv.Sep.frm (by assumption) | (refine Frm.trans ?_ (by assumption); first | exact Frm.refl _ | assumption))⟩; (try simp only [realB, rv_true, Nat.reduceBEq, cond_true, cond_false, entG, real_lif, updGL])
      all_goals rfl
  | true =>
    cases per with
    | false =>
      refine sgo ?_
      (first | refine fp1 (.inl rfl) rfl rfl ?_ | refine fp2 (.inl rfl) rfl rfl rfl ?_ | refine fp3 (.inl rfl) rfl rfl rfl rfl ?_ | refine fp0 (.inr rfl) rfl ?_ | refine fp0 (.inl rfl) rfl ?_ | refine fp1 (.inr rfl) rfl rfl ?_); refine ⟨?_, by (first | exact Frm.refl _ | assumption | exact Go.Sv.Sep.frm (by assumption) | (refine Frm.trans ?_ (by assumption); first | exact Frm.refl _ | assumption))⟩; (try simp only [realB, rv_true, Nat.reduceBEq, cond_true, cond_false, entG, real_lif, updGL])
      all_goals rfl
    | true =>
      refine sgo ?_
      (first | refine fp1 (.inl rfl) rfl rfl ?_ | refine fp2 (.inl rfl) rfl rfl rfl ?_ | refine fp3 (.inl rfl) rfl rfl rfl rfl ?_ | refine fp0 (.inr rfl) rfl ?_ | refine fp0 (.inl rfl) rfl ?_ | refine fp1 (.inr rfl) rfl rfl ?_); refine ⟨?_, by (first | exact Frm.refl _ | assumption | exact Go.Sv.Sep.frm (by assumption) | (refine Frm.trans ?_ (by assumption); first | exact Frm.refl _ | assumption))⟩; (try simp only [realB, rv_true, Nat.reduceBEq, cond_true, cond_false, entG, real_lif, updGL])
      all_goals rfl
end
end Go.Proofs.YtjpnhaaneaikbaaDoor

