/-
  Our texts SvTpL, SvEbD, SvGd, SvEbE, SvElC, SvElD, SvElE, SvTpJ, SvRec3, SvElF, SvElG, SvElH, SvPost, SvOpen, SvOpnAt, SvOpn18, SvOpn18c, SvOpnB, SvOpn, SvAsc, SvAscW, joined.
-/
import Derived.Test.YthgbpgjpnaanlaaGreatDoorMg6
import Derived.ChangeSame
import Derived.Test.YthgbpgjpnaanlaaGreatDoorRows
import Derived.WalkKit
import Derived.ProofKit
import Derived.OpenShut
import Derived.JoinedCond
import Derived.Deep.Slices
import Derived.WideKeyArgs
import Derived.Lib.LaidTab
import Derived.Deep.DeepHandedRow
import Derived.Deep.DeepWitnessRowRef
/-
  Package token: Parse.
-/
set_option linter.unusedSimpArgs false
set_option linter.unusedVariables false
set_option linter.unnecessarySimpa false
namespace Go.Proofs.YthgbpgjpnaanlaaGreatDoor
open Go Go.Sv Go.RowKit

theorem ats_small : ∀ (n : Nat) (s : List UInt8) (acc es : List At) (r : List UInt8), s.length ≤ n → s.length ≤ 1048576 → (∀ a ∈ acc, a.small) → atsR s acc = some (es, r) → ∀ a ∈ es, a.small
  | n, s, acc, es, r, hn, hb, hacc, h => by
    by_cases h2 : s.take 2 = [32, 34]
    · cases h1 : at1R s with
      | none => rw [atsR_bad h2 h1] at h; cases h
      | some x =>
        obtain ⟨a, r1⟩ := x
        rw [atsR_yes h2 h1] at h
        obtain ⟨_, a2, a3⟩ := at1R_suf h1
        cases n with
        | zero => omega
        | succ n =>
          refine ats_small n r1 (acc ++ [a]) es r (by omega) (by omega) (fun y hy => ?_) h
          rcases List.mem_append.1 hy with hy | hy
          · exact hacc y hy
          · rw [List.mem_singleton.1 hy]; exact ⟨by omega, by omega⟩
    · rw [atsR_end h2] at h
      injection h with h; injection h with h3 h4
      subst h3
      exact hacc
theorem readF_small : ∀ (ws : List (List UInt8)) (k : Nat) (s : List UInt8) (t : Tok), wordsL.drop k = ws → lineS s → readF k ws s = some t → t.small
  | [], k, s, t, _, _, h => by cases h
  | x :: ws, k, s, t, hd, hS, h => by
    have hx : wordsL[k]? = some x := by
      have := congrArg (·[0]?) hd
      simpa using this
    rw [readF] at h
    split at h
    · rename_i hp
      unfold tokR at h
      cases hh : headT k (s.drop x.length) with
      | none => rw [hh] at h; cases h
      | some z =>
        obtain ⟨nm, tx, r⟩ := z
        rw [hh] at h
        dsimp only at h
        cases ha : atsR r [] with
        | none => rw [ha] at h; cases h
        | some y =>
          obtain ⟨es, r2⟩ := y
          rw [ha] at h
          dsimp only at h
          obtain ⟨z1, z2, z3, z4⟩ := hS k x nm tx r es r2 hx hp hh ha
          split at h
          · injection h with h
            subst h
            exact ⟨z1, z2, z3, z4⟩
          · cases h
    · refine readF_small ws (k + 1) s t ?_ hS h
      have := congrArg List.tail hd
      simpa [List.tail_drop] using this
theorem read_smallS {s : List UInt8} {t : Tok} (hS : lineS s) (h : readR s = some t) : t.small := readF_small _ 0 s t rfl hS h
set_option maxHeartbeats 1000000 in
theorem parse_ok (s : List UInt8) (hb : s.length ≤ 16777216) (HS : ∀ y ∈ linesR s, lineS y) (w : World) :
    CallsR Tryz.prog 44 #[str s] w fun v w' => Frm w w' ∧ ((0 < (parseR s).2 ∧ v = .tuple #[.slice none 0 0, int (parseR s).2, int 70]) ∨
      ((parseR s).2 = 0 ∧ ∃ q cc ms, v = .tuple #[.slice q ms.length cc, int 0, int 0] ∧ ms.map TokM.t = (parseR s).1 ∧ TL w' w.heap.size q cc ms ∧ (∀ m ∈ ms, m.t.small) ∧ ms.length ≤ s.length)) := by
  obtain ⟨R, hR⟩ : ∃ R, parseR s = R := ⟨_, rfl⟩
  rw [hR]
  unfold parseR at hR
  refine enter (l := [str s]) Tryz.func44 rfl Tryz.ntmps44 (by kernel_rfl) rfl ?_
  refine sgo ?_
  refine wcloop (X := Nat × List UInt8 × Option Addr × Nat × List TokM) (fun x => [(0, str x.2.1), (5, .slice x.2.2.1 x.2.2.2.2.length x.2.2.2.1), (6, int x.1)])
    (fun x wr => parseF x.1 (linesR x.2.1) (x.2.2.2.2.map TokM.t) = R ∧ x.1 + x.2.1.length ≤ s.length + 1 ∧ (∀ y ∈ linesR x.2.1, lineS y) ∧ x.2.2.2.2.length + 1 = x.1 ∧ (∀ m ∈ x.2.2.2.2, m.t.small) ∧ TL wr w.heap.size x.2.2.1 x.2.2.2.1 x.2.2.2.2 ∧ Frm w wr)
    (fun x => x.2.1.length) (1, s, none, 0, []) ⟨rfl, rfl, rfl, trivial⟩ ⟨hR, by dsimp only; omega, HS, rfl, by simp, TL.nil w _, Frm.refl _⟩ ?_
  clear hR HS
  rintro ⟨n, rest, q, cc, ms⟩ wr ρ ⟨hP, hnl, HS, hml, hsm, hTL, hfr⟩
  dsimp only at hP hnl HS hml hsm hTL ⊢
  refine sgo ?_
  by_cases hr : rest = []
  · subst hr
    refine wcno ?_ (ht := by rfl)
    have hR : R = (ms.map TokM.t, 0) := hP.symm
    refine sgo ?_
    (first | refine fp1 (.inl rfl) rfl rfl ?_ | refine fp2 (.inl rfl) rfl rfl rfl ?_ | refine fp3 (.inl rfl) rfl rfl rfl rfl ?_ | refine fp0 (.inr rfl) rfl ?_ | refine fp0 (.inl rfl) rfl ?_ | refine fp1 (.inr rfl) rfl rfl ?_)
    exact ⟨hfr, .inr ⟨by rw [hR], q, cc, ms, rfl, by rw [hR], hTL, hsm, by simp at hnl; omega⟩⟩
  · refine wcyes ?_ (ht := by simp [hr])
    rw [lines_cut hr] at hP HS
    have HS1 := HS _ List.mem_cons_self
    have HS2 := fun y hy => HS y (List.mem_cons_of_mem _ hy)
    clear HS
    obtain ⟨c1, c2, c3⟩ := cutT_len rest
    have c3' := c3 hr
    refine sgo ?_
    refine wlpure (cut10_ok rest (by omega) _) fun w1 hf1 => ?_
    unfold cutV
    have hx1 : (cutN rest).1.length ≤ 16777216 := by omega
    generalize (cutN rest).1 = one at *
    generalize (cutN rest).2.1 = r2 at *
    generalize (cutN rest).2.2 = fnd at *
    refine sgo ?_
    refine wlcall (line_ok one hx1 HS1 _) ?_
    cases ht : readR one with
    | none =>
      dsimp only
      rintro _ w2 ⟨rfl, hS2⟩
      have hR : R = ([], n) := by
        rw [← hP]
        simp only [parseF]
        rw [ht]
      have hf2 := (hfr.trans hf1).trans hS2.frm
      refine sgo ?_
      refine wlalloc fun b5 w5 hb5 o5 hf5 => ?_
      refine sgo ?_
      refine wlstorea0 (vs := zeroV) o5 (fun w6 o6 hl6 => ?_) (hx := rfl) (hy := rfl) (h1 := by simp [zeroV, Value.oneCell'])
      have hz2 := hf2.size
      have hfr6 := (hf2.trans hf5).step hl6 (by intro x hx; simp at hx; omega)
      refine sgo ?_
      (first | refine fp1 (.inl rfl) rfl rfl ?_ | refine fp2 (.inl rfl) rfl rfl rfl ?_ | refine fp3 (.inl rfl) rfl rfl rfl rfl ?_ | refine fp0 (.inr rfl) rfl ?_ | refine fp0 (.inl rfl) rfl ?_ | refine fp1 (.inr rfl) rfl rfl ?_)
      rw [hR]
      exact ⟨hfr6, .inl ⟨by dsimp only; omega, rfl⟩⟩
    | some t =>
      dsimp only
      rintro _ w2 ⟨p, c, rfl, hS2⟩
      have hP2 : parseF (n + 1) (linesR r2) ((ms ++ [(⟨t, p, c⟩ : TokM)]).map TokM.t) = R := by
        rw [← hP, List.map_append]
        simp only [parseF]
        rw [ht]
        rfl
      have hts := read_smallS HS1 ht
      have hf2 := (hfr.trans hf1).trans hS2.frm
      have hrow := hS2.row 0 rfl
      have hlow : ∀ x ∈ rb p, w1.heap.size ≤ x := hS2.low _ List.mem_cons_self
      have hTL2 := (hTL.frm hf1).frm hS2.frm
      clear hP ht
      refine sgo ?_
      refine wlalloc fun b5 w5 hb5 o5 hf5 => ?_
      refine sgo ?_
      refine wlstorea0 (vs := Tok.cells t p c) o5 (fun w6 o6 hl6 => ?_) (hx := rfl) (hy := rfl) (h1 := tok_one _ _ _)
      have hz2 := hf2.size
      have hfr6 := (hf2.trans hf5).step hl6 (by intro x hx; simp at hx; omega)
      have hTL6 := (hTL2.frm hf5).le hl6 (fun x hx => by have := (hTL2.lt x hx).2; simp; omega)
      have hrow6 := (hrow.frm hf5).le hl6 (fun x hx => by have := hrow.lt x hx; simp; omega)
      simp only [Tok.cells] at o6
      refine sgo ?_
      refine wlb1a (size := 8) (vs := Tok.cells t p c) (fun b10 w10 hb10 o10 hf10 => ?_) (hx := rfl) (hv := rfl)
      have hTL10 := hTL6.frm hf10
      have hrow10 := hrow6.frm hf10
      have hz1 := hf1.size
      have hzr := hfr.size
      refine sgo ?_
      refine wlapp hTL10.row o10.sg (fun q11 c11 w11 hr11 hl11 => ?_) (hl := rfl) (h1 := tok_one _ _ _)
      have hTL11 : TL w11 w.heap.size q11 c11 (ms ++ [⟨t, p, c⟩]) := by
        refine hTL10.push (m := ⟨t, p, c⟩) ⟨hrow10, fun x hx => by have := hlow x hx; omega⟩ (fun x hx hx' => ?_) hr11 hl11 (hfr6.trans hf10).size
        have := hlow x hx
        have := (hTL.lt x hx').2
        omega
      have hfr11 : Frm w w11 := (hfr6.trans hf10).step hl11.1 (fun x hx => hTL.low x hx)
      have hml2 : (ms ++ [(⟨t, p, c⟩ : TokM)]).length = ms.length + 1 := by rw [List.length_append]; rfl
      refine sgo ?_
      refine ⟨(n + 1, r2, q11, c11, ms ++ [⟨t, p, c⟩]), ⟨rfl, ?_, rfl, trivial⟩, ⟨hP2, by dsimp only; omega, HS2, by dsimp only; omega, fun m hm => ?_, hTL11, hfr11⟩, by dsimp only; omega⟩
      · dsimp only
        rw [hml2]
        rfl
      · rcases List.mem_append.1 hm with hm | hm
        · exact hsm m hm
        · rw [List.mem_singleton.1 hm]; exact hts
end Go.Proofs.YthgbpgjpnaanlaaGreatDoor

/-
  Package event: read.
-/
set_option linter.unusedSimpArgs false
set_option linter.unusedVariables false
set_option linter.unnecessarySimpa false
namespace Go.Sv
open Go Go.RowKit
theorem qxalloc {P : Program} {σ : GE} {w0 : World} {K : Env → World → Prop} {d : Nat} {e ty : TypeId} {pos : String} {af : Array Edge} {zv : Value} {size bytes : Nat} [hi : Inf P e zv size bytes] (h : ∀ b w', Frm w0 w' → w0.heap.size ≤ b → Own w' b zv.cells.toList → K (real (updG σ d ⟨ptrAt (pb b) 0, true⟩)) w') :
    QX P w0 ⟨some d, .alloc e, ty, pos, af, none⟩ (real σ) K := by
  refine ⟨fun u w => ∃ b, u = ptrAt (pb b) 0 ∧ w0.heap.size ≤ b ∧ Own w b zv.cells.toList, ?_, ?_, ?_⟩
  · rintro u w w' ⟨b, rfl, h1, h2⟩ hf
    exact ⟨b, rfl, h1, h2.frm hf⟩
  · intro w hw
    refine ⟨_, w.alloc (.cells zv.cells e), ?_, frm_alloc _ _, w.heap.size, rfl, hw.size, own_alloc _ _ _⟩
    simp [execOp, Instr.alloc, run_zeroValue (P := P) (t := e), newVar, newRow]
    rfl
  · rintro u w hw ⟨b, rfl, h1, h2⟩
    have := h b w hw h1 h2
    rw [← real_upd] at this
    exact this
theorem qlbuild {P : Program} {n : Nat} {ds : Ctx} {ops : Array Oper} {C : World → Prop} {QE : Env → Prop} {rest : List Oper} {σ : GE} {d : Nat} {t ty : TypeId} {pos : String} {af : Array Edge} {zv : Value} {size bytes : Nat} {pl : List (Nat × Nat)} {ps : List (Nat × Operand)} {cells : List Value} [hf : Flds P t pl] [hi : Inf P t zv size bytes]
    (h : QL P n ds ops C QE rest (real (updG σ d ⟨.agg cells.toArray, true⟩)))
    (hc : fillL pl zv.cells.toList (ps.map fun p => (p.1, evl (real σ) p.2)) = some cells := by
      simp only [List.map, Go.Sv.evl, Go.Sv.realB, Nat.reduceBEq, cond_true, cond_false, Go.Sv.rv_true, Go.Sv.entG, Go.Sv.updGL]
      simp [Go.Sv.fillL, Go.Sv.setSeg, Go.Value.cells]
      first | done | rfl) :
    QL P n ds ops C QE (⟨some d, .build t ps.toArray, ty, pos, af, none⟩ :: rest) (real σ) := ql h (YQ.ofY fun _ _ => y_build hc)
end Go.Sv
namespace Go.Proofs.YthgbpgjpnaanlaaGreatDoor
open Go Go.Sv Go.RowKit

theorem index_cutB : ∀ l : List UInt8, (Lib.indexByte l 32 = -1 ∧ cutB l = (l, [])) ∨ ∃ i : Nat, i < l.length ∧ Lib.indexByte l 32 = i ∧ cutB l = (l.take i, l.drop (i + 1))
  | [] => .inl ⟨rfl, rfl⟩
  | c :: l => by
    unfold Lib.indexByte cutB
    by_cases hc : c.toNat = 32
    · have : c = 32 := UInt8.toNat_inj.1 hc
      subst this
      exact .inr ⟨0, by simp, rfl, rfl⟩
    · have hne : (c == 32) = false := by
        rw [beq_eq_false_iff_ne]
        intro h
        subst h
        exact hc rfl
      rw [hne, if_neg hc]
      rcases index_cutB l with ⟨h1, h2⟩ | ⟨i, h0, h1, h2⟩
      · left
        rw [h1, h2]
        exact ⟨rfl, rfl⟩
      · right
        refine ⟨i + 1, by simp; omega, ?_, ?_⟩
        · have : (Lib.indexByte l 32 == -1) = false := by rw [h1, beq_eq_false_iff_ne]; omega
          rw [this, h1]
          simp
        · rw [h2]; rfl
theorem idx32_ok (s : List UInt8) (w : World) : PureC Tryz.prog 88 #[str s, str [32]] w (.int .i64 (Lib.indexByte s 32)) := by
  refine Calls.mono (Tryz.stringslite_Index_one ⟨s.toArray⟩ 32 w) ?_
  rintro e w' ⟨rfl, rfl⟩
  exact ⟨_, rfl, rfl, Frm.refl _⟩
def fnd32 (s : List UInt8) : Bool := decide (0 ≤ Lib.indexByte s 32)
set_option maxHeartbeats 1000000 in
theorem litCut32_ok (s : List UInt8) (hb : s.length ≤ 16777216) (w : World) : PureC Tryz.prog 71 #[str s, str [32]] w (.tuple #[str (cutB s).1, str (cutB s).2, .bool (fnd32 s)]) := by
  have hix := fun w => idx32_ok s w
  unfold fnd32
  refine enter (l := [str s, str [32]]) Tryz.func71 rfl Tryz.ntmps71 (by kernel_rfl) rfl ?_
  refine sgo ?_
  refine wlpure (hix _) fun w1 hf1 => ?_
  rcases index_cutB s with ⟨h1, h2⟩ | ⟨i, hi, h1, h2⟩
  · rw [h1, h2]
    refine sgo ?_
    (first | refine fp1 (.inl rfl) rfl rfl ?_ | refine fp2 (.inl rfl) rfl rfl rfl ?_ | refine fp3 (.inl rfl) rfl rfl rfl rfl ?_ | refine fp0 (.inr rfl) rfl ?_ | refine fp0 (.inl rfl) rfl ?_ | refine fp1 (.inr rfl) rfl rfl ?_); refine ⟨?_, by (first | exact Frm.refl _ | assumption | exact Go.Sv.Sep.frm (by assumption) | (refine Frm.trans ?_ (by assumption); first | exact Frm.refl _ | assumption))⟩; (try simp only [realB, rv_true, Nat.reduceBEq, cond_true, cond_false, entG, real_lif, updGL])
    all_goals rfl
  · rw [h1, h2]
    refine sgo ?_
    refine wcyes ?_ (ht := by simp)
    refine sgo ?_
    refine wcdraw ?_
    refine qgo ?_
    have h10 : ([32] : List UInt8).length = 1 := rfl
    rw [h10]
    refine qgo ?_
    refine QL_nil ?_
    intro w2 hf2
    refine thn_normal ?_
    refine sgo ?_
    have e1 : ((i : Int) + ((1 : Nat) : Int)).toNat = i + 1 := by omega
    simp only [e1]
    have hf := hf1.trans hf2
    clear hf1 hf2
    (first | refine fp1 (.inl rfl) rfl rfl ?_ | refine fp2 (.inl rfl) rfl rfl rfl ?_ | refine fp3 (.inl rfl) rfl rfl rfl rfl ?_ | refine fp0 (.inr rfl) rfl ?_ | refine fp0 (.inl rfl) rfl ?_ | refine fp1 (.inr rfl) rfl rfl ?_); refine ⟨?_, by (first | exact Frm.refl _ | assumption | exact Go.Sv.Sep.frm (by assumption) | (refine Frm.trans ?_ (by assumption); first | exact Frm.refl _ | assumption))⟩; (try simp only [realB, rv_true, Nat.reduceBEq, cond_true, cond_false, entG, real_lif, updGL])
    have e2 : decide (0 ≤ (i : Int)) = true := by simp
    rw [e2]
    all_goals rfl
theorem cut32_ok (s : List UInt8) (hb : s.length ≤ 16777216) (w : World) : PureC Tryz.prog 43 #[str s, str [32]] w (.tuple #[str (cutB s).1, str (cutB s).2, .bool (fnd32 s)]) := by
  have hix := fun w => litCut32_ok s hb w
  refine enter (l := [str s, str [32]]) Tryz.func43 rfl Tryz.ntmps43 (by kernel_rfl) rfl ?_
  refine sgo ?_
  refine wlpure (hix _) fun w1 hf1 => ?_
  refine sgo ?_
  (first | refine fp1 (.inl rfl) rfl rfl ?_ | refine fp2 (.inl rfl) rfl rfl rfl ?_ | refine fp3 (.inl rfl) rfl rfl rfl rfl ?_ | refine fp0 (.inr rfl) rfl ?_ | refine fp0 (.inl rfl) rfl ?_ | refine fp1 (.inr rfl) rfl rfl ?_); refine ⟨?_, by (first | exact Frm.refl _ | assumption | exact Go.Sv.Sep.frm (by assumption) | (refine Frm.trans ?_ (by assumption); first | exact Frm.refl _ | assumption))⟩; (try simp only [realB, rv_true, Nat.reduceBEq, cond_true, cond_false, entG, real_lif, updGL])
  all_goals rfl
theorem sIndex10_ok (s : List UInt8) (w : World) : PureC Tryz.prog 69 #[str s, str [10]] w (.int .i64 (Lib.indexByte s 10)) := by
  have hix := fun w => idx10_ok s w
  refine enter (l := [str s, str [10]]) Tryz.func69 rfl Tryz.ntmps69 (by kernel_rfl) rfl ?_
  refine sgo ?_
  refine wlpure (hix _) fun w1 hf1 => ?_
  refine sgo ?_
  (first | refine fp1 (.inl rfl) rfl rfl ?_ | refine fp2 (.inl rfl) rfl rfl rfl ?_ | refine fp3 (.inl rfl) rfl rfl rfl rfl ?_ | refine fp0 (.inr rfl) rfl ?_ | refine fp0 (.inl rfl) rfl ?_ | refine fp1 (.inr rfl) rfl rfl ?_); refine ⟨?_, by (first | exact Frm.refl _ | assumption | exact Go.Sv.Sep.frm (by assumption) | (refine Frm.trans ?_ (by assumption); first | exact Frm.refl _ | assumption))⟩; (try simp only [realB, rv_true, Nat.reduceBEq, cond_true, cond_false, entG, real_lif, updGL])
def no10R (s : List UInt8) : Bool := s.all fun c => !decide (c.toNat = 10)
theorem contains10_ok (s : List UInt8) (w : World) : PureC Tryz.prog 45 #[str s, str [10]] w (.bool (!no10R s)) := by
  have hix := fun w => sIndex10_ok s w
  have he : decide (Lib.indexByte s 10 ≥ 0) = !no10R s := by
    unfold no10R
    cases h : s.all (fun c => !decide (c.toNat = 10)) with
    | true =>
      have : ∀ x ∈ s, x ≠ (10 : UInt8) := fun x hx e => by
        have := List.all_eq_true.1 h x hx
        rw [e] at this
        cases this
      rw [idx_none this]
      rfl
    | false =>
      have h1 : ¬ Lib.indexByte s 10 = -1 := fun hn => by
        rw [List.all_eq_false] at h
        obtain ⟨x, hx, hx2⟩ := h
        obtain ⟨i, hi, rfl⟩ := List.mem_iff_getElem.1 hx
        have h3 := Lib.indexByte_none hn i
        rw [List.getElem?_eq_getElem hi] at h3
        have h4 : s[i].toNat = 10 := by simpa using hx2
        exact h3 (by rw [show s[i] = 10 from UInt8.toNat_inj.1 h4])
      have h2 := Lib.indexByte_ge s 10
      have : Lib.indexByte s 10 ≥ 0 := by omega
      simp [this]
  refine enter (l := [str s, str [10]]) Tryz.func45 rfl Tryz.ntmps45 (by kernel_rfl) rfl ?_
  refine sgo ?_
  refine wlpure (hix _) fun w1 hf1 => ?_
  refine sgo ?_
  (first | refine fp1 (.inl rfl) rfl rfl ?_ | refine fp2 (.inl rfl) rfl rfl rfl ?_ | refine fp3 (.inl rfl) rfl rfl rfl rfl ?_ | refine fp0 (.inr rfl) rfl ?_ | refine fp0 (.inl rfl) rfl ?_ | refine fp1 (.inr rfl) rfl rfl ?_); refine ⟨?_, by (first | exact Frm.refl _ | assumption | exact Go.Sv.Sep.frm (by assumption) | (refine Frm.trans ?_ (by assumption); first | exact Frm.refl _ | assumption))⟩; (try simp only [realB, rv_true, Nat.reduceBEq, cond_true, cond_false, entG, real_lif, updGL])
  rw [he]
/-! ## read -/
def wrongV : Value := .iface 65 (.agg #[])
theorem wrong_conc : Tryz.prog.concrete 65 = true := by kernel_rfl
def wrongE : List PanicEntry := [{ v := wrongV, recovered := false }]
def wrdL : List (Value × Value) := wrdKV.map fun x => (Value.int .i64 x.1, x.2)
theorem wrdL_mem {y : Value × Value} (h : y ∈ wrdL) : ∃ k : Nat, k < 4 ∧ y = (int k, wrdV k) := by
  unfold wrdL wrdKV at h
  simp only [List.map_cons, List.map_nil, List.mem_cons, List.not_mem_nil, or_false] at h
  rcases h with rfl | rfl | rfl | rfl
  · exact ⟨0, by decide, rfl⟩
  · exact ⟨1, by decide, rfl⟩
  · exact ⟨2, by decide, rfl⟩
  · exact ⟨3, by decide, rfl⟩
theorem wrdL_at {k : Nat} (h : k < 4) : ((int k, wrdV k) : Value × Value) ∈ wrdL := by
  match k, h with
  | 0, _ => exact List.mem_cons_self
  | 1, _ => exact List.mem_cons_of_mem _ List.mem_cons_self
  | 2, _ => exact List.mem_cons_of_mem _ (List.mem_cons_of_mem _ List.mem_cons_self)
  | 3, _ => exact List.mem_cons_of_mem _ (List.mem_cons_of_mem _ (List.mem_cons_of_mem _ List.mem_cons_self))
theorem evWord_some {k : Nat} (hk : k < 4) : evWord (ew0 k) = some k := by
  match k, hk with
  | 0, _ => rfl
  | 1, _ => rfl
  | 2, _ => rfl
  | 3, _ => rfl
theorem evWord_none {w : List UInt8} (h : ∀ k : Nat, k < 4 → ew0 k ≠ w) : evWord w = none := by
  unfold evWord
  rw [List.find?_eq_none]
  intro k hk
  rw [List.mem_range] at hk
  simp [h k hk]
theorem ew1_len (k : Int) : (ew1 k).length ≤ 5 := by
  unfold ew1
  repeat' split
  all_goals decide
def evZ : List Value := [int 0, str [], str [], .slice none 0 0]
set_option maxHeartbeats 4000000 in
theorem evRead_ok (s : List UInt8) (hb : s.length ≤ 16777000) (HS : ∀ k : Nat, k < 4 → ew0 k = (cutB s).1 → ∀ y ∈ linesR (ew1 k ++ 32 :: (cutB s).2), lineS y) (w : World) (hA : Asc w) :
    CallsP Tryz.prog 24 #[str s] w (fun v w' => ∃ e p c, evRead s = some e ∧ v = .agg ⟨e.cells p c⟩ ∧ e.small ∧ Sep w w' [pRow 2 p e.attrs.length c (e.attrs.flatMap At.cells)])
      (fun ch w' => evRead s = none ∧ ch = wrongE ∧ Frm w w') := by
  have hS := Sep.start w
  obtain ⟨R, hR⟩ : ∃ R, evRead s = R := ⟨_, rfl⟩
  rw [hR]
  have hcut := fun w => cut32_ok s (by omega) w
  have hbl : (cutB s).2.length ≤ s.length := by
    rcases index_cutB s with ⟨h1, h2⟩ | ⟨i, hi, h1, h2⟩
    · rw [h2]; simp
    · rw [h2]; simp
  unfold evRead at hR
  generalize (cutB s).1 = word at *
  generalize (cutB s).2 = rest at *
  refine enterP (l := [str s]) Tryz.func24 rfl Tryz.ntmps24 (by kernel_rfl) rfl ?_
  refine sgo ?_
  refine salloc hS fun b2 w1 hS => ?_
  replace hS : Sep w w1 [pOwn b2 evZ] := hS
  refine sgo ?_
  refine wlpure (hcut _) fun w2 hf2 => ?_
  replace hS := hS.grow hf2
  clear hcut
  refine sgo ?_
  refine wlcall (words18_ok w _ _ hS) ?_
  clear hS
  rintro _ w3 ⟨m, rfl, -, hS⟩
  refine wlrangei Tryz.underlying54 (hS.at (c := pIMap m wrdKV) 0 rfl) fun r w4 hr hMI hf4 => ?_
  replace hS : Sep w w4 [pMIt r m wrdL, pOwn b2 evZ] := hS.upd (c := pIMap m wrdKV) (c' := pMIt r m wrdL) 0 rfl ⟨hf4.le, fun x hx hlt => by simp [pMIt] at hx; simp [pIMap]; omega⟩ hMI
  refine sgo ?_
  refine wcloop (X := List (Value × Value)) (fun x => [(2, ptrAt (pb b2) 0), (3, str word), (4, str rest), (19, .pointer (pb r))])
    (fun x wr => (∀ y ∈ x, y ∈ wrdL) ∧ (∀ k : Nat, k < 4 → ew0 k = word → ((int k, wrdV k) : Value × Value) ∈ x) ∧ Sep w wr [pMIt r m x, pOwn b2 evZ]) (fun x => x.length) wrdL ⟨rfl, rfl, rfl, rfl, trivial⟩ ⟨fun _ h => h, fun k hk _ => wrdL_at hk, hS⟩ ?_
  clear hS hMI hf4 hf2
  rintro left wr ρ ⟨hsub, hcov, hS⟩
  refine sgo ?_
  refine wlnextm (hS.at (c := pMIt r m left) 0 rfl) (fun hnil => ?_) (fun kv left' w5 hkv hlen hsub' hcov' hMI hCur hl => ?_)
  · have hn : R = none := by
      rw [← hR, evWord_none fun k hk hw => by have := hcov k hk hw; rw [hnil] at this; cases this]
    refine sgo ?_
    refine wlbuild ?_
    refine wlmki ?_ wrong_conc
    refine wlpan ?_
    repeat (first | refine thn_panic ?_ | refine thl_panic ?_ | refine blk_panic ?_ | refine ngt_panic ?_)
    exact fpPan ⟨hn, rfl, hS.frm⟩ rfl
  replace hS : Sep w w5 [pMIt r m left', pOwn b2 evZ] := hS.upd (c := pMIt r m left) (c' := pMIt r m left') 0 rfl ⟨hl.mono (fun x hx _ => by simp at hx; simp [pMIt, hx]), fun x hx _ => hx⟩ hMI
  obtain ⟨k, hk, rfl⟩ := wrdL_mem (hsub _ hkv)
  refine sgo ?_
  refine wlentry hCur ?_
  clear hCur hMI hl
  refine sgo ?_
  refine salloc hS fun b7 w6 hS => ?_
  refine sgo ?_
  refine ssta (vs := [str (ew0 k), str (ew1 k)]) hS 0 fun w7 hS => ?_
  replace hS : Sep w w7 [pOwn b7 [str (ew0 k), str (ew1 k)], pMIt r m left', pOwn b2 evZ] := hS
  refine sgo ?_
  rcases Classical.em (ew0 k = word) with hw | hw
  · have h1l := ew1_len k
    have HSk := HS k hk hw
    subst hw
    rw [evWord_some hk] at hR
    dsimp only at hR
    refine wcno ?_ (ht := by simp)
    refine sgo ?_
    have e1 : ew1 k ++ [32] ++ rest = ew1 k ++ 32 :: rest := by simp
    rw [e1]
    have hpl : (ew1 (k : Int) ++ 32 :: rest).length ≤ 16777216 := by simp; omega
    refine wlcall (parse_ok (ew1 k ++ 32 :: rest) hpl HSk _) ?_
    generalize parseR (ew1 (k : Int) ++ 32 :: rest) = PR at *
    obtain ⟨ts, n⟩ := PR
    rintro _ w8 ⟨hf8, (⟨hpos, rfl⟩ | ⟨hz, q, cc, ms, rfl, hms, hTL, hsmall, hml⟩)⟩
    · have hn : R = none := by
        rw [← hR]
        obtain ⟨n', rfl⟩ : ∃ n', n = n' + 1 := ⟨n - 1, by have : 0 < n := hpos; omega⟩
        rcases ts with _ | ⟨t, _ | ⟨t2, ts⟩⟩ <;> rfl
      replace hS := hS.grow hf8
      clear hR HS HSk hcov
      refine sgo ?_
      refine wlskipg undef ?_ (hgt := by decide)
      refine wlskipg undef ?_ (hgt := by decide)
      refine wlskipg (.bool true) ?_ (hgt := by decide)
      refine sgo ?_
      refine wlbuild ?_
      refine wlmki ?_ wrong_conc
      refine wlpan ?_
      repeat (first | refine thn_panic ?_ | refine thl_panic ?_ | refine blk_panic ?_ | refine ngt_panic ?_)
      exact fpPan ⟨hn, rfl, hS.frm⟩ rfl
    · obtain rfl : n = 0 := hz
      dsimp only at hms
      subst hms
      clear HS HSk hcov
      rcases ms with _ | ⟨t, _ | ⟨t2, ms⟩⟩
      · have hn : R = none := hR.symm
        replace hS := hS.grow hf8
        simp only [List.length_nil]
        refine sgo ?_
        refine wlskipg undef ?_ (hgt := by decide)
        refine wlskipg undef ?_ (hgt := by decide)
        refine wlskipg (.bool true) ?_ (hgt := by decide)
        refine sgo ?_
        refine wlbuild ?_
        refine wlmki ?_ wrong_conc
        refine wlpan ?_
        repeat (first | refine thn_panic ?_ | refine thl_panic ?_ | refine blk_panic ?_ | refine ngt_panic ?_)
        exact fpPan ⟨hn, rfl, hS.frm⟩ rfl
      · simp only [List.length_cons, List.length_nil]
        have hTk := (hTL.each t (by simp))
        have hrow := hTk.1
        have hlow := hTk.2
        have htsm := hsmall t (by simp)
        have hIq : Im [] w8 q t.cells := by
          have := hTL.toks.im
          simpa using this
        replace hS := hS.push (c := pRow 2 t.p t.t.attrs.length t.c (t.t.attrs.flatMap At.cells)) hf8 hrow (fun x hx => hlow x hx)
        obtain ⟨⟨kd, nm, tx, es, sf, t1, t2, t3⟩, tp, tc⟩ := t
        replace hIq : Im [] w8 q [int kd, str nm, str tx, .slice tp es.length tc, .bool sf, int t1, int t2, int t3] := hIq
        have hSg := hIq.sg
        dsimp only at hR hS htsm
        replace hS : Sep w w8 [pRow 2 tp es.length tc (es.flatMap At.cells), pOwn b7 [str (ew0 k), str (ew1 k)], pMIt r m left', pOwn b2 evZ] := hS
        have hq : ∃ q', q = some q' := hSg.some (by simp)
        clear hTL hTk hrow hlow hsmall
        refine sgo ?_
        cases sf with
        | true =>
          have hn : R = none := by
            rw [← hR]
            exact if_neg (by simp)
          refine wcyes ?_ (ht := by decide)
          refine sgo ?_
          refine wlbuild ?_
          refine wlmki ?_ wrong_conc
          refine wlpan ?_
          repeat (first | refine thn_panic ?_ | refine thl_panic ?_ | refine blk_panic ?_ | refine ngt_panic ?_)
          exact fpPan ⟨hn, rfl, hS.frm⟩ rfl
        | false =>
          refine wcno ?_ (ht := by decide)
          refine sgo ?_
          refine wcdrawx 14 ?_
          refine qgo ?_
          refine qlbuild ?_
          refine QL_nil ?_
          refine qxalloc fun b11 w9 hf9 hb11 ho11 => ?_
          replace hS := hS.push (c := pOwn b11 _) hf9 ho11 (by simpa [pOwn] using hb11)
          refine sgo ?_
          refine ssta (vs := [int k, str nm, str tx, .slice tp es.length tc]) hS 0 fun w10 hS => ?_
          replace hS : Sep w w10 [pOwn b11 [int k, str nm, str tx, .slice tp es.length tc], pRow 2 tp es.length tc (es.flatMap At.cells), pOwn b7 [str (ew0 k), str (ew1 k)], pMIt r m left', pOwn b2 evZ] := hS
          have hes : Ev.small ⟨k, nm, tx, es⟩ := ⟨htsm.name, htsm.text, htsm.attrs, htsm.each⟩
          refine sgo ?_
          refine wlpure (evCheck_ok ⟨k, nm, tx, es⟩ tp tc hes w10 (hA.frm hS.frm) (hS.im 1 rfl)) fun w11 hf11 => ?_
          replace hS := hS.grow hf11
          refine sgo ?_
          refine wlcallgp (vals := [str rest, str [10]]) (fun _ => contains10_ok rest _) fun w12 hf12 => ?_
          replace hS := hS.grow hf12
          refine sgo ?_
          replace hR : (if (false = false ∧ evR ⟨k, nm, tx, es⟩ = true) ∧ no10R rest = true then some (⟨k, nm, tx, es⟩ : Ev) else none) = R := hR
          by_cases hok : evR ⟨k, nm, tx, es⟩ = true ∧ no10R rest = true
          · rw [if_pos ⟨⟨rfl, hok.1⟩, hok.2⟩] at hR
            refine wcno ?_ (ht := by rw [hok.1, hok.2]; decide)
            refine sgo ?_
            refine ssta (vs := [int k, str nm, str tx, .slice tp es.length tc]) hS 4 fun w13 hS => ?_
            refine sgo ?_
            refine fpP (c := ⟨[], none⟩) (.inl rfl) ?_ rfl
            refine fpc (l := [int k, str nm, str tx, .slice tp es.length tc]) (.inl rfl) rfl rfl rfl (hS.own 4 rfl) ?_
            exact ⟨⟨k, nm, tx, es⟩, tp, tc, hR.symm, rfl, hes, ((hS.front 1 rfl).sub (List.Sublist.cons_cons _ (List.nil_sublist _)))⟩
          · rw [if_neg (by rintro ⟨⟨_, h1⟩, h2⟩; exact hok ⟨h1, h2⟩)] at hR
            refine wcyes ?_ (ht := by
              cases he : evR ⟨k, nm, tx, es⟩ with
              | false => simp [pkb]
              | true =>
                cases h1 : no10R rest with
                | false => simp [pkb]
                | true => exact absurd ⟨he, h1⟩ hok)
            refine sgo ?_
            refine wlbuild ?_
            refine wlmki ?_ wrong_conc
            refine wlpan ?_
            repeat (first | refine thn_panic ?_ | refine thl_panic ?_ | refine blk_panic ?_ | refine ngt_panic ?_)
            exact fpPan ⟨hR.symm, rfl, hS.frm⟩ rfl
      · have hn : R = none := hR.symm
        have hrow := hTL.row
        have hSg := hrow.sg
        have h2 : decide ((((t :: t2 :: ms : List TokM).length : Nat) : Int) ≠ 1) = true := by simp only [List.length_cons]; exact decide_eq_true (by omega)
        clear hTL hsmall
        replace hS := hS.grow hf8
        refine sgo ?_
        refine wlskipg undef ?_ (hgt := by rw [h2]; decide)
        refine wlskipg undef ?_ (hgt := by rw [h2]; decide)
        refine wlskipg (.bool true) ?_ (hgt := by rw [h2]; decide)
        refine sgo ?_
        refine wcyes ?_ (ht := by rw [h2]; decide)
        refine sgo ?_
        refine wlbuild ?_
        refine wlmki ?_ wrong_conc
        refine wlpan ?_
        repeat (first | refine thn_panic ?_ | refine thl_panic ?_ | refine blk_panic ?_ | refine ngt_panic ?_)
        exact fpPan ⟨hn, rfl, hS.frm⟩ rfl
  · refine wcyes ?_ (ht := by simp [hw])
    refine sgo ?_
    refine ⟨left', ⟨rfl, rfl, rfl, rfl, trivial⟩, ⟨fun y hy => hsub y (hsub' y hy), fun j hj hw2 => ?_, hS.tail⟩, hlen⟩
    rcases hcov' _ (hcov j hj hw2) with h | h
    · exfalso
      injection h with h1 h2
      injection h1 with h3 h4
      have : j = k := by omega
      subst this
      exact hw hw2
    · exact h
end Go.Proofs.YthgbpgjpnaanlaaGreatDoor

/-
  Regions that draw their order, by a plan, where an operation may panic.
-/
set_option linter.unusedSimpArgs false
set_option linter.unusedVariables false
set_option linter.unnecessarySimpa false
namespace Go.Sv
open Go Go.RowKit
/-- what comes of an operation, whatever it yields, or a panic -/
def comesQ (P : Program) (T : Value → World → Prop) (E : List PanicEntry → World → Prop) : Result Next → Prop
  | .ok (.value u) w' => T u w'
  | .ok .skip w' => T undef w'
  | .ok (.enter f args) w' => Calls P f args w' (fun e w'' => (∃ v, e = .returned v ∧ T v w'') ∨ ∃ ch, e = .panicked ch ∧ E ch w'')
  | .halt (.panic v) w' => E [{ v := v, recovered := false }] w'
  | _ => False
section
variable {P : Program} {n : Nat} {ds : Ctx} {Q : Exit → Ctx → Env → World → Prop} {S : (Nat → Bool) → Env → World → Prop} {σ : Env} {w : World} {m : Nat} {QP : List PanicEntry → Env → World → Prop}
theorem comesQ_of {T : Value → World → Prop} {E : List PanicEntry → World → Prop} : ∀ {r : Result Next}, comes P T r → comesQ P T E r := by
  intro r hr
  unfold comes at hr
  unfold comesQ
  split at hr
  · exact hr
  · exact hr
  · exact Calls.mono hr fun e w h => .inl h
  · exact hr.elim
theorem comesQ_mono {T T' : Value → World → Prop} {E E' : List PanicEntry → World → Prop} (h : ∀ v w, T v w → T' v w) (h2 : ∀ c w, E c w → E' c w) : ∀ {r : Result Next}, comesQ P T E r → comesQ P T' E' r := by
  intro r hr
  unfold comesQ at *
  split at hr
  · exact h _ _ hr
  · exact h _ _ hr
  · refine Calls.mono hr fun e w hh => ?_
    rcases hh with ⟨v, he, hv⟩ | ⟨c, he, hc⟩
    · exact .inl ⟨v, he, h _ _ hv⟩
    · exact .inr ⟨c, he, h2 _ _ hc⟩
  · exact h2 _ _ hr
  · exact hr.elim
def StepQ (P : Program) (ops : Array Oper) (S : (Nat → Bool) → Env → World → Prop) (QP : List PanicEntry → Env → World → Prop) (k : Nat) (o : Oper) : Prop := ∀ L σ w, Up ops o k L → S L σ w →
  (Region.wanted o (yl ops σ) = true ∧ comesQ P (fun v w' => S (on L k) (updO σ o.dst v) w') (fun ch w' => QP ch σ w') ((execOp (evl σ) o).run P w)) ∨ (Region.wanted o (yl ops σ) = false ∧ S (on L k) (updO σ o.dst undef) w)
theorem wpOpIn_of_Q {ops : Array Oper} {dd : List Deferred} {Q' : Exit → Act → World → Prop} {T : Value → World → Prop} {E : List PanicEntry → World → Prop} {K : Act → World → Prop} {i : Nat} {o : Oper} {ro : Option Nat} (hino : operIn n ro.isSome ops o = true) (ho : ops[i]? = some o)
    (h : (Region.wanted o (yl ops σ) = true ∧ comesQ P T E ((execOp (evl σ) o).run P w)) ∨ (Region.wanted o (yl ops σ) = false ∧ T undef w))
    (next : ∀ v w', T v w' → K ((act n dd σ).put o.dst v) w') (hp : ∀ ch w', E ch w' → Q' (.panic ch) (act n dd σ) w') : wpOpIn (fen ro) m P ops Q' i K (act n dd σ) w := by
  unfold wpOpIn
  simp only [ho]
  rw [act_yielded hino]
  rcases h with ⟨hw, hy⟩ | ⟨hw, hy⟩
  · rw [hw, if_pos rfl]
    refine ⟨fun _ _ => fen_fn _ _, ?_⟩
    rw [fen_round, semAt_in hino, act_exec hino]
    generalize (execOp (evl σ) o).run P w = r at *
    cases r with
    | ok x w' =>
      cases x <;> simp only [comesQ] at hy <;> simp only [Oper.uponIn]
      case value u => exact next _ _ hy
      case skip => exact next _ _ hy
      case enter g args =>
        refine ⟨fun h => (by rw [fen_depth] at h; cases h), callsIn_fen (Calls.mono hy ?_)⟩
        rintro e w'' (⟨v, rfl, h2⟩ | ⟨ch, rfl, h2⟩)
        · exact next _ _ h2
        · exact hp _ _ h2
    | halt x w' =>
      cases x <;> simp only [comesQ] at hy <;> simp only [Oper.uponIn]
      exact hp _ _ hy
  · rw [hw, if_neg Bool.false_ne_true]
    exact ⟨fun _ _ => fen_fn _ _, next _ _ hy⟩
theorem wpAnyIn_of_Q {ops : Array Oper} {dd : List Deferred} {Q' : Exit → Act → World → Prop} {ro : Option Nat} (hf : fwdB ops = true) (hin : ops.toList.all (operIn n ro.isSome ops) = true) (hop : ∀ k o, ops[k]? = some o → StepQ P ops S QP k o)
    (hQ : ∀ L σ w, (∀ k, k < ops.size → L k = true) → S L σ w → Q' .normal (act n dd σ) w) (hp : ∀ ch σ w', QP ch σ w' → Q' (.panic ch) (act n dd σ) w') :
    ∀ (f : Nat) (listed : Array Bool) (σ : Env) (w : World), listed.size = ops.size → Clo ops (fl listed) → listed.toList.count false ≤ f → S (fl listed) σ w → wpAnyIn (fen ro) m P .any ops Q' f listed (act n dd σ) w
  | 0, listed, σ, w, hsz, _, hc, hS => by
    have hall : ∀ k, k < ops.size → fl listed k = true := by
      intro k hk
      cases hL : fl listed k with
      | true => rfl
      | false =>
        exfalso
        simp only [fl, Array.getD_eq_getD_getElem?, show k < listed.size from by omega, Array.getElem?_eq_getElem, Option.getD_some] at hL
        have : false ∈ listed.toList := by rw [← hL]; simp
        have := List.count_pos_iff.2 this
        omega
    refine ⟨?_, hQ _ _ _ hall hS⟩
    cases hr : Region.ready .any ops listed with
    | nil => rfl
    | cons i r =>
      exfalso
      have hi : i ∈ Region.ready .any ops listed := by rw [hr]; exact List.mem_cons_self
      obtain ⟨h0, o, ho, _⟩ := mem_ready.1 hi
      have hk : i < ops.size := (Array.getElem?_eq_some_iff.1 ho).1
      have := hall i hk
      simp only [fl, Array.getD_eq_getD_getElem?, show i < listed.size from by omega, Array.getElem?_eq_getElem, Option.getD_some] at this h0
      rw [this] at h0
      cases h0
  | f + 1, listed, σ, w, hsz, hcl, hc, hS => by
    refine ⟨fun hr => hQ _ _ _ (ready_of_fwd hf hsz hr) hS, fun i hi => ?_⟩
    obtain ⟨h0, o, ho, hall⟩ := mem_ready.1 hi
    have hio : i < ops.size := (Array.getElem?_eq_some_iff.1 ho).1
    have hlt : i < listed.size := by omega
    have h0' : listed[i] = false := by simpa [hlt] using h0
    have hup : Up ops o i (fl listed) := by
      refine ⟨by simp [fl, hlt, h0'], ?_, ?_⟩
      · intro j hj
        obtain ⟨e, he, hb, rfl⟩ := bindsOn_iff.1 hj
        exact hall e he hb
      · intro j oj hj hb
        cases hL : fl listed j with
        | false => rfl
        | true =>
          have h1 := hcl j oj hj hL i hb
          have h2 : fl listed i = true := h1
          simp [fl, hlt, h0'] at h2
    have hino : operIn n ro.isSome ops o = true := by
      rw [List.all_eq_true] at hin
      exact hin o (by simpa using Array.mem_of_getElem? ho)
    refine wpOpIn_of_Q hino ho (hop i o ho _ σ w hup hS) (fun v w' hw' => ?_) (fun ch w' h => hp ch σ w' h)
    rw [act_put (operIn_dst hino)]
    refine wpAnyIn_of_Q hf hin hop hQ hp f _ _ _ (by simpa using hsz) (by rw [fl_set hlt]; exact clo_on hcl ho hup.did) ?_ (by rw [fl_set hlt]; exact hw')
    rw [Array.toList_setIfInBounds, List.count_set]
    · have hb : listed.toList[i]'(by simpa using hlt) = false := by simpa using h0'
      have hpos : 0 < listed.toList.count false := List.count_pos_iff.2 (by rw [← hb]; exact List.getElem_mem _)
      rw [hb]; simp only [beq_self_eq_true, if_true]; simp; rw [Array.count_toList] at *; omega
    · simpa using hlt
/-- a region that draws and may panic, within whatever round -/
theorem wcdrawirQ [hm : Mix P] {id : Nat} {ops : List Oper} (S : (Nat → Bool) → Env → World → Prop) (h0 : ∀ wd, Frm w wd → S (fun _ => false) σ wd) (hop : ∀ k o, ops[k]? = some o → StepQ P ops.toArray S QP k o)
    (hend : ∀ L σ' w', (∀ k, k < ops.length → L k = true) → S L σ' w' → Q .normal ds σ' w') (hp : ∀ ch σ' w', QP ch σ' w' → Q (.panic ch) ds σ' w') (hf : fwdB ops.toArray = true := by kernel_rfl) : WC P n ds (.region id ops.toArray true) Q σ w := by
  unfold WC
  intro hin
  have hin' : ops.all (operIn n ds.ro.isSome ops.toArray) = true := by simpa [codeIn] using hin
  refine wpIn_region_any hm.ok ?_
  have e0 : fl (Array.replicate ops.toArray.size false) = fun _ => false := by funext k; exact getD_replicate_false _ _
  refine wpAnyIn_of_Q (S := S) (QP := QP) (n := n) hf (by simpa using hin') (fun k o ho => hop k o (by simpa using ho)) ?_ ?_ _ _ _ _ (by simp) ?_ ?_ ?_
  · intro L σ' w' hL hS
    exact ⟨ds.ds, σ', rfl, hend L σ' w' (by simpa using hL) hS⟩
  · intro ch σ' w' h
    exact ⟨ds.ds, σ', rfl, hp ch σ' w' h⟩
  · rw [e0]; intro j oj _ hL; cases hL
  · simp
  · rw [e0]; exact h0 _ (Frm.drawn (Frm.refl w))
end
section
variable {X : Type}
/-- how operation k goes, by the plan; it may panic -/
def PlanB.RuleQ (p : PlanB X) (P : Program) (QP : List PanicEntry → Env → World → Prop) (w0 : World) (cs : List Plot) (σ0 : Env) (ops : List Oper) (k : Nat) (o : Oper) : Prop :=
  ∀ (a : Nat → PD X) (σ : Env) (w : World) (rest : List Plot), (∀ s, (∀ (j : Nat) (o : Oper), ops[j]? = some o → j ≠ k → bindsOn o k = false → o.dst ≠ some s) → σ s = σ0 s) →
    (∀ (j : Nat) (oj : Oper), bindsOn o j = true → ops[j]? = some oj → (∀ d, oj.dst = some d → σ d = (a j).v) ∧ p.fact j a) → Sep w0 w (p.takes ops.length k a ++ (p.base k ++ (p.seen ops k ++ (cs ++ rest)))) →
    (Region.wanted o (yl ops.toArray σ) = true ∧ comesQ P (fun v w' => ∃ d, v = d.v ∧ p.fact k (setD a k d) ∧ Sep w0 w' (p.pl k d ++ (p.seen ops k ++ (cs ++ rest)))) (fun ch w' => QP ch σ w') ((execOp (evl σ) o).run P w)) ∨
    (Region.wanted o (yl ops.toArray σ) = false ∧ ∃ d, undef = d.v ∧ p.fact k (setD a k d) ∧ Sep w0 w (p.pl k d ++ (p.seen ops k ++ (cs ++ rest))))
def PlanB.RulesQ (p : PlanB X) (P : Program) (QP : List PanicEntry → Env → World → Prop) (w0 : World) (cs : List Plot) (σ0 : Env) (ops : List Oper) : Nat → List Oper → Prop
  | _, [] => True
  | k, o :: l => p.RuleQ P QP w0 cs σ0 ops k o ∧ p.RulesQ P QP w0 cs σ0 ops (k + 1) l
theorem PlanB.rulesQ_get {p : PlanB X} {P : Program} {QP : List PanicEntry → Env → World → Prop} {w0 : World} {cs : List Plot} {σ0 : Env} {ops : List Oper} : ∀ {l : List Oper} {k : Nat}, p.RulesQ P QP w0 cs σ0 ops k l → ∀ j o, l[j]? = some o → p.RuleQ P QP w0 cs σ0 ops (k + j) o
  | [], _, _, j, o, h => by simp at h
  | x :: l, k, hs, 0, o, h => by simp only [List.getElem?_cons_zero, Option.some.injEq] at h; subst h; exact hs.1
  | x :: l, k, hs, j + 1, o, h => by
    have := PlanB.rulesQ_get hs.2 j o (by simpa using h)
    rwa [show k + 1 + j = k + (j + 1) from by omega] at this
/-- a rule of an operation that never panics -/
theorem ruleQ {P : Program} {T : Value → World → Prop} {E : List PanicEntry → World → Prop} {r : Result Next} {A B : Prop} (h : (A ∧ comes P T r) ∨ B) : (A ∧ comesQ P T E r) ∨ B := by
  rcases h with ⟨h1, h2⟩ | h
  · exact .inl ⟨h1, comesQ_of h2⟩
  · exact .inr h
/-- a call that may panic -/
theorem ruleQ_call {P : Program} {T : Value → World → Prop} {E : List PanicEntry → World → Prop} {B : Prop} {σ : Env} {w : World} {ops : Array Oper} {d : Option Tmp} {ty : TypeId} {pos : String} {af : Array Edge} {f : FuncId} [hf : Fnc P f] {args : List Operand} {ats : Array TypeId} {vals : List Value} {R : Value → World → Prop} {S : List PanicEntry → World → Prop}
    (hc : CallsP P f vals.toArray w R S) (hT : ∀ v w', R v w' → T v w') (hE : ∀ ch w', S ch w' → E ch w') (ha : args.map (evl σ) = vals) :
    (Region.wanted (⟨d, .call ⟨.value (.func f), args.toArray, ats⟩, ty, pos, af, none⟩ : Oper) (yl ops σ) = true ∧ comesQ P T E ((execOp (evl σ) ⟨d, .call ⟨.value (.func f), args.toArray, ats⟩, ty, pos, af, none⟩).run P w)) ∨ B := by
  refine .inl ⟨rfl, ?_⟩
  rw [run_call_func]
  have : (args.toArray.map (evl σ)) = vals.toArray := by rw [← ha]; simp
  rw [this]
  refine Calls.mono hc fun e w'' hh => ?_
  rcases hh with ⟨v, he, hv⟩ | ⟨ch, he, hs⟩
  · exact .inl ⟨v, he, hT v w'' hv⟩
  · exact .inr ⟨ch, he, hE ch w'' hs⟩
/-- a region that draws and may panic, by a plan -/
theorem wcplanq {P : Program} [hm : Mix P] {n : Nat} {ds : Ctx} {Q : Exit → Ctx → Env → World → Prop} {σ : Env} {w w0 : World} {id : Nat} {ops : List Oper} {cs b : List Plot} (p : PlanB X) (d0 : PD X) (hS : Sep w0 w (b ++ cs)) (hb : (List.range ops.length).flatMap p.base = b)
    (hF : ∀ (j : Nat) (oj : Oper) (a a' : Nat → PD X), ops[j]? = some oj → a j = a' j → (∀ i, bindsOn oj i = true → a i = a' i) → p.fact j a → p.fact j a')
    (hR : p.RulesQ P (fun ch σ' w' => Q (.panic ch) ds σ' w') w0 cs σ ops 0 ops)
    (hend : ∀ (a : Nat → PD X) σ' w', (∀ s, (∀ (k : Nat) (o : Oper), ops[k]? = some o → o.dst ≠ some s) → σ' s = σ s) → (∀ (k : Nat) (o : Oper), ops[k]? = some o → (∀ d, o.dst = some d → σ' d = (a k).v) ∧ p.fact k a) →
      Sep w0 w' (((List.range ops.length).filter fun j => (p.con j).isNone).flatMap (fun j => p.pl j (a j)) ++ cs) → Q .normal ds σ' w')
    (hB : planB p.con ops = true := by kernel_rfl) (hf : fwdB ops.toArray = true := by kernel_rfl) : WC P n ds (.region id ops.toArray true) Q σ w := by
  refine wcdrawirQ (QP := fun ch σ' w' => Q (.panic ch) ds σ' w') (p.S w0 cs σ ops) (fun wd hwd => ⟨fun _ _ => rfl, fun _ => d0, fun _ _ _ h => absurd h Bool.false_ne_true, ?_⟩) (fun k o hk => ?_) ?_ (fun _ _ _ h => h) hf
  · have e : p.mem ops.length (fun _ => false) (fun _ => d0) = [] := by
      unfold PlanB.mem
      rw [List.filter_eq_nil_iff.2 (by intro j _; simp [PlanB.live])]
      rfl
    have e2 : p.bmem ops.length (fun _ => false) = b := by
      rw [← hb]; unfold PlanB.bmem
      rw [List.filter_eq_self.2 (by intro j _; rfl)]
    rw [e, e2]
    exact hS.grow hwd
  · intro L σ' w' hu hS0
    have hr := PlanB.rulesQ_get hR k o hk
    rw [Nat.zero_add] at hr
    obtain ⟨a, rest, h1, h2, h3, hnew⟩ := planb_core hB hF hk hu hS0
    rcases hr a σ' w' rest h1 h2 h3 with ⟨h1, h2⟩ | ⟨h1, d, h2, h3, h4⟩
    · refine .inl ⟨h1, comesQ_mono (fun v w' => ?_) (fun _ _ h => h) h2⟩
      rintro ⟨d, rfl, hf, hS'⟩
      exact hnew d w' hf hS'
    · refine .inr ⟨h1, ?_⟩
      rw [h2]
      exact hnew d w' h3 h4
  · rintro L σ' w' hL ⟨hσ, a, hA, hS'⟩
    refine hend a σ' w' (fun s hs => hσ s fun k o hk _ => hs k o hk) (fun k o hk => hA k o hk (hL k (List.getElem?_eq_some_iff.1 hk).1)) ?_
    have e2 : p.bmem ops.length L = [] := by
      unfold PlanB.bmem
      rw [List.filter_eq_nil_iff.2 (by intro j hj; simp [hL j (List.mem_range.1 hj)])]
      rfl
    rw [e2] at hS'
    refine hS'.perm (List.Perm.append_right _ (List.Perm.of_eq ?_))
    unfold PlanB.mem
    congr 1
    refine List.filter_congr fun j hj => ?_
    have h1 := hL j (List.mem_range.1 hj)
    simp only [PlanB.live, h1, Bool.true_and]
    cases hc : p.con j with
    | none => rfl
    | some c =>
      have := List.all_eq_true.1 hB j hj
      rw [Bool.and_eq_true, hc] at this
      have h2 := this.1
      simp only [Bool.and_eq_true, decide_eq_true_eq] at h2
      simp [hL c h2.1]
end
end Go.Sv

/-
  Package event: Parse.
-/
set_option linter.unusedSimpArgs false
set_option linter.unusedVariables false
set_option linter.unnecessarySimpa false
namespace Go.Sv
open Go Go.RowKit
section
variable {P : Program} {n : Nat} {w : World}
/-- three results: cell, slot, cell, behind deferred functions -/
theorem leave_ctc {fn : Func} {R : Value → World → Prop} {dl : List Deferred} {σ : Env} {t1 t2 t3 : Nat} {y1 y3 : TypeId} {b1 b3 : Nat} {v1 v3 : Value} (hr : fn.results = #[.cell t1 y1, .tmp t2, .cell t3 y3])
    (ht : (Nat.blt t1 n && Nat.blt t2 n && Nat.blt t3 n) = true) (hp : σ t1 = .pointer (pb b1) ∧ σ t3 = .pointer (pb b3)) (o1 : Own w b1 [v1]) (o3 : Own w b3 [v3])
    [h1 : Agg P y1 false] [h3 : Agg P y3 false] (h : R (.tuple #[v1, σ t2, v3]) w) :
    LeavesInM Fence.wide 0 P fn (act n dl σ).tmps (fun e w' => ∃ v, e = .returned v ∧ R v w') [] .returning w := by
  simp only [Bool.and_eq_true] at ht
  obtain ⟨⟨ht1, ht2⟩, ht3⟩ := ht
  obtain ⟨p1, p3⟩ := hp
  obtain ⟨T1, o1⟩ := o1
  obtain ⟨T3, o3⟩ := o3
  have g : ∀ {t : Nat} {v : Value}, Nat.blt t n = true → σ t = v → (act n dl σ).tmps[t]?.getD undef = v := fun {t v} ht hp => by
    have : (act n dl σ).tmps.getD t undef = v := by rw [act_getD ht]; exact hp
    simpa using this
  have c1 : w.cell? ⟨b1, 0, none⟩ = some v1 := by rw [cell_of_row w b1 0 _ _ _ o1]; rfl
  have c3 : w.cell? ⟨b3, 0, none⟩ = some v3 := by rw [cell_of_row w b3 0 _ _ _ o3]; rfl
  refine ⟨.tuple #[v1, σ t2, v3], ?_, _, rfl, h⟩
  simp [results, hr, g ht1 p1, g ht2 (rfl : σ t2 = σ t2), g ht3 p3, asAddr, pb, loadVar, run_isAgg (P := P) (t := y1), run_isAgg (P := P) (t := y3), c1, c3]
end
end Go.Sv
namespace Go.Proofs.YthgbpgjpnaanlaaGreatDoor
open Go Go.Sv Go.RowKit

set_option maxHeartbeats 1000000 in
/-- the deferred function of Parse, where nothing has panicked -/
theorem parse1_back (bl bc : Nat) (w : World) (R : Ending → FrameMode → World → Prop) (h : R (.returned (.tuple #[])) .returning w) :
    CallsDIn Fence.wide 0 Tryz.prog 21 #[ptrAt (pb bl) 0, ptrAt (pb bc) 0] .returning w R := by
  refine enterDR (l := [ptrAt (pb bl) 0, ptrAt (pb bc) 0]) (v := .nilIface) Tryz.func21 rfl Tryz.ntmps21 (by kernel_rfl) rfl rfl rfl rfl .returning ?_
  refine sgo ?_
  refine wl ?_ (y_inn0 Tryz.underlying20 rfl rfl)
  refine sgo ?_
  exact fpD0 (.inr rfl) rfl h
set_option maxHeartbeats 1000000 in
/-- .. and where it has -/
theorem parse1_caught (bl bc : Nat) (x : Value) (w0 w : World) (cs : List Plot) (hS : Sep w0 w (pOwn bl [x] :: pOwn bc [int 0] :: cs)) (R : Ending → FrameMode → World → Prop)
    (h : ∀ w', Sep w0 w' (pOwn bl [.slice none 0 0] :: pOwn bc [int 180] :: cs) → R (.returned (.tuple #[])) (.panicking [{ v := wrongV, recovered := true }]) w') :
    CallsDIn Fence.wide 0 Tryz.prog 21 #[ptrAt (pb bl) 0, ptrAt (pb bc) 0] (.panicking wrongE) w R := by
  refine enterDR (l := [ptrAt (pb bl) 0, ptrAt (pb bc) 0]) (v := wrongV) Tryz.func21 rfl Tryz.ntmps21 (by kernel_rfl) rfl rfl rfl rfl (.panicking wrongV []) ?_
  refine sgo ?_
  refine wl ?_ (y_inn1 Tryz.underlying20 rfl rfl)
  refine sgo ?_
  refine wl ?_ (y_tas Tryz.underlying65 rfl rfl)
  refine sgo ?_
  refine salloc hS fun b3 w1 hS => ?_
  refine sgo ?_
  refine ssta (vs := []) hS 0 fun w2 hS => ?_
  refine sgo ?_
  refine sst_slice hS 1 fun w3 hS => ?_
  refine sgo ?_
  refine sst_int hS 2 fun w4 hS => ?_
  refine sgo ?_
  refine fpD0 (.inr rfl) rfl (h _ hS.tail)
/-! ## Parse -/
/-- what is read of a line of events is small -/
def lineE (y : List UInt8) : Prop := ∀ k : Nat, k < 4 → ew0 k = (cutB y).1 → ∀ z ∈ linesR (ew1 k ++ 32 :: (cutB y).2), lineS z
theorem trimSuf_ok (s p : List UInt8) (hb : s.length ≤ 1073741824) (w : World) : PureC Tryz.prog 23 #[str s, str p] w (str (Lib.trimSuffix s p)) := by
  refine Calls.mono (Tryz.strings_TrimSuffix ⟨s.toArray⟩ ⟨p.toArray⟩ w (by rw [ByteArray.size]; simp; omega)) ?_
  rintro e w' ⟨rfl, rfl⟩
  exact ⟨_, rfl, rfl, Frm.refl _⟩
theorem evPF_drop {n : Nat} {ls : List (List UInt8)} {i : Nat} {x : List UInt8} {acc : List Ev} (h : ls[i]? = some x) : evPF n (ls.drop i) acc = match evRead x with | none => ([], n) | some e => evPF (n + 1) (ls.drop (i + 1)) (acc ++ [e]) := by
  obtain ⟨hi, rfl⟩ := List.getElem?_eq_some_iff.1 h
  rw [List.drop_eq_getElem_cons hi, evPF]
  rfl
theorem linesR_len (l : List UInt8) : (linesR l).length ≤ l.length := by
  have key : ∀ (n : Nat) (l : List UInt8), l.length ≤ n → (linesR l).length ≤ l.length := by
    intro n
    induction n with
    | zero =>
      intro l hn
      rw [List.eq_nil_of_length_eq_zero (by omega : l.length = 0)]
      exact Nat.le_refl _
    | succ n ih =>
      intro l hn
      by_cases h : l = []
      · subst h; exact Nat.le_refl _
      · rw [lines_cut h, List.length_cons]
        have h1 := (cutT_len l).2.2 h
        have h2 := ih (cutN l).2.1 (by omega)
        omega
  exact key l.length l (Nat.le_refl _)
theorem lines_size {s : List UInt8} : ∀ y ∈ linesR s, y.length ≤ s.length := by
  have key : ∀ (n : Nat) (l : List UInt8), l.length ≤ n → ∀ y ∈ linesR l, y.length ≤ l.length := by
    intro n
    induction n with
    | zero =>
      intro l hn y hy
      rw [List.eq_nil_of_length_eq_zero (by omega : l.length = 0)] at hy
      cases hy
    | succ n ih =>
      intro l hn y hy
      by_cases h : l = []
      · subst h; cases hy
      · rw [lines_cut h] at hy
        obtain ⟨c1, c2, c3⟩ := cutT_len l
        have h1 := c3 h
        rcases List.mem_cons.1 hy with rfl | hy
        · exact c1
        · have h2 := ih (cutN l).2.1 (by omega) y hy
          omega
  exact key s.length s (Nat.le_refl _)
def psP (b2 : Nat) (q : Option Addr) (cc : Nat) (ns : List EvM) (x : List UInt8) : PlanB (Ev × Option Addr × Nat) where
  pl k d := match k with
    | 2 => [pRow 2 d.x.2.1 d.x.1.attrs.length d.x.2.2 (d.x.1.attrs.flatMap At.cells)]
    | 3 => [pOwn d.b (d.x.1.cells d.x.2.1 d.x.2.2)]
    | 4 => [pRow 4 d.p (ns.length + 1) d.c (ns.flatMap EvM.cells ++ d.x.1.cells d.x.2.1 d.x.2.2)]
    | 5 => [pOwn b2 [.slice d.p (ns.length + 1) d.c]]
    | _ => []
  con k := match k with
    | 3 => some 4
    | _ => none
  base k := match k with
    | 4 => [pRow 4 q ns.length cc (ns.flatMap EvM.cells)]
    | 5 => [pOwn b2 [.slice q ns.length cc]]
    | _ => []
  fact k a := match k with
    | 0 => (a 0).v = .slice q ns.length cc
    | 1 => (a 1).v = str x
    | 2 => (a 2).v = .agg ⟨(a 2).x.1.cells (a 2).x.2.1 (a 2).x.2.2⟩ ∧ evRead x = some (a 2).x.1 ∧ (a 2).x.1.small
    | 3 => (a 3).v = .slice (pb (a 3).b) 1 1 ∧ (a 3).x = (a 2).x
    | 4 => (a 4).v = .slice (a 4).p (ns.length + 1) (a 4).c ∧ (a 4).x = (a 3).x
    | 5 => (a 5).p = (a 4).p ∧ (a 5).c = (a 4).c
    | _ => True
set_option maxHeartbeats 4000000 in
theorem evParse_ok (s : List UInt8) (hb : s.length ≤ 16000000) (HS : ∀ y ∈ linesR s, lineE y) (w : World) (hA : Asc w) (hM : MaxW w) :
    CallsR Tryz.prog 7 #[str s] w fun v w' =>
      (0 < (evPR s).2 ∧ v = .tuple #[.slice none 0 0, int (evPR s).2, int 180] ∧ Frm w w') ∨
      ((evPR s).2 = 0 ∧ ∃ q cc ns, v = .tuple #[.slice q ns.length cc, int 0, int 0] ∧ evs ns = (evPR s).1 ∧ (∀ m ∈ ns, m.e.small) ∧ ns.length ≤ s.length ∧ Sep w w' [pRow 4 q ns.length cc (ns.flatMap EvM.cells), pMany (ns.map EvM.row)]) := by
  obtain ⟨R, hR⟩ : ∃ R, evPR s = R := ⟨_, rfl⟩
  rw [hR]
  unfold evPR at hR
  have hS := Sep.start w
  have htl := trs_len s 10
  have hll := linesR_len s
  have hlz := lines_size (s := s)
  refine enter (l := [str s]) Tryz.func7 rfl Tryz.ntmps7 (by kernel_rfl) rfl ?_
  refine sgo ?_
  refine salloc hS fun b2 w1 hS => ?_
  refine sgo ?_
  refine salloc hS fun b4 w2 hS => ?_
  replace hS : Sep w w2 [pOwn b4 [int 0], pOwn b2 [.slice none 0 0]] := hS
  refine sgo ?_
  by_cases h0 : s = []
  · subst h0
    have hRR : R = ([], 0) := hR.symm
    refine wcyes ?_ (ht := by rfl)
    refine sgo ?_
    refine sst_slice hS 1 fun w3 hS => ?_
    refine sgo ?_
    refine sst_int hS 0 fun w4 hS => ?_
    refine sgo ?_
    refine fp_leave (.inl rfl) ?_
    refine leave_ctc (b1 := b2) (b3 := b4) rfl rfl ⟨rfl, rfl⟩ (hS.own 1 rfl) (hS.own 0 rfl) ?_
    refine .inr ⟨by rw [hRR], none, 0, [], rfl, by rw [hRR]; rfl, by simp, Nat.le_refl _, ?_⟩
    exact (hS.empty.zero).nilRow 4
  refine wcno ?_ (ht := by simp [h0])
  refine sgo ?_
  refine wldefer (cap := [ptrAt (pb b2) 0, ptrAt (pb b4) 0]) ?_
  refine sgo ?_
  refine wlpure (trimSuf_ok s [10] (by omega) _) fun w3 hf3 => ?_
  replace hS := hS.grow hf3
  refine wlcall (spSplit_ok (Lib.trimSuffix s [10]) 10 (by omega) _ (hM.frm hS.frm)) ?_
  rintro _ w4 ⟨bs, rfl, hS4⟩
  replace hS := hS.seq hS4
  clear hS4 hf3
  have hsl := spl_lines s.length s (Nat.le_refl _) h0
  rw [hsl] at hS ⊢
  clear hsl h0 htl
  generalize linesR s = L at *
  have hLn := strs_len L
  replace hS : Sep w w4 [pRow 4 none 0 0 [], pOwn b2 [.slice none 0 0], pMany [], pOwn b4 [int 0], pOwn bs (strs L)] := by
    have h := (hS.zero).nilRow 4
    have h2 : Sep w w4 [pRow 4 none 0 0 [], pMany [], pOwn bs (strs L), pOwn b4 [int 0], pOwn b2 [.slice none 0 0]] := h
    exact ((((h2.front 2 rfl).front 3 rfl).front 3 rfl).front 4 rfl).front 4 rfl
  refine sgo ?_
  refine wcloop (X := Nat × Option Addr × Nat × List EvM) (fun x => [(2, ptrAt (pb b2) 0), (3, int x.1), (4, ptrAt (pb b4) 0), (12, .slice (pb bs) L.length L.length), (13, int L.length), (14, int x.1)])
    (fun x wr => x.1 ≤ L.length ∧ evPF (x.1 + 1) (L.drop x.1) (evs x.2.2.2) = R ∧ x.2.2.2.length = x.1 ∧ (∀ m ∈ x.2.2.2, m.e.small) ∧
      Sep w wr [pRow 4 x.2.1 x.2.2.2.length x.2.2.1 (x.2.2.2.flatMap EvM.cells), pOwn b2 [.slice x.2.1 x.2.2.2.length x.2.2.1], pMany (x.2.2.2.map EvM.row), pOwn b4 [int 0], pOwn bs (strs L)]) (fun x => L.length - x.1) (0, none, 0, []) ⟨rfl, rfl, rfl, rfl, rfl, rfl, trivial⟩ ⟨Nat.zero_le _, hR, rfl, by simp, hS⟩ ?_
  clear hS hR
  rintro ⟨i, q, cc, ns⟩ wr ρ ⟨hil, hR, hnl, hsm, hS⟩
  dsimp only at hil hR hnl hsm hS ⊢
  refine sgo ?_
  (show WC _ _ _ _ _ _ _; first | refine WC_dec rfl (fun hc => ?_) (fun hc => ?_) | refine WC_cond rfl (fun hc => ?_) (fun hc => ?_))
  · have hlt : i < L.length := by omega
    clear hc
    obtain ⟨x, hx⟩ : ∃ x, L[i]? = some x := ⟨_, List.getElem?_eq_getElem hlt⟩
    have hxm := List.mem_of_getElem? hx
    have hxl := hlz x hxm
    have HSx := HS x hxm
    have hxv := strs_at hx
    rw [evPF_drop hx] at hR
    refine sgo ?_
    refine wcplanq (b := [pRow 4 q ns.length cc (ns.flatMap EvM.cells)] ++ [pOwn b2 [.slice q ns.length cc]]) (psP b2 q cc ns x) ⟨.nilIface, none, 0, 0, (⟨0, [], [], []⟩, none, 0)⟩ hS rfl (fun j oj a a' hj he hd h => ?_) ⟨?_, ?_, ?_, ?_, ?_, ?_, trivial⟩ ?_
    · have hjl : j < 6 := (List.getElem?_eq_some_iff.1 hj).1
      match j, hjl with
      | 0, _ | 1, _ | 2, _ => first | (simp only [psP] at h ⊢; rw [← he]; exact h) | exact h
      | 3, _ => simp only [psP] at h ⊢; rw [← he, ← hd 2 (by cases hj; rfl)]; exact h
      | 4, _ => simp only [psP] at h ⊢; rw [← he, ← hd 3 (by cases hj; rfl)]; exact h
      | 5, _ => simp only [psP] at h ⊢; rw [← he, ← hd 4 (by cases hj; rfl)]; exact h
    · intro a σ' w' rest hσ hdep hS'   -- 0: load; pieces: sees 4, sees 5 ..
      refine ruleQ ?_
      have e2 : σ' 2 = ptrAt (pb b2) 0 := (hσ 2 (notDstB rfl)).trans rfl
      exact rule_y (y_load e2 (Sep.sgv hS' 1 rfl) rfl) ⟨⟨.slice q ns.length cc, none, 0, 0, (⟨0, [], [], []⟩, none, 0)⟩, rfl, rfl, hS'⟩
    · intro a σ' w' rest hσ hdep hS'   -- 1: move; pieces: sees 5 ..
      refine ruleQ ?_
      have e6 : σ' 6 = str x := (hσ 6 (notDstB rfl)).trans rfl
      exact rule_e [(6, _)] ⟨e6, trivial⟩ ⟨⟨str x, none, 0, 0, (⟨0, [], [], []⟩, none, 0)⟩, rfl, rfl, hS'⟩
    · intro a σ' w' rest hσ hdep hS'   -- 2: call; pieces: sees 4, sees 5 ..
      have f1 := (hdep 1 _ rfl rfl).2
      have e21 := ((hdep 1 _ rfl rfl).1 21 rfl).trans f1
      refine ruleQ_call (vals := [str x]) (evRead_ok x (by omega) HSx w' (hA.frm hS'.frm)) (fun v w2 hR2 => ?_) (fun ch w2 hE => ?_) (am1 e21)
      · obtain ⟨e, p, c, he, rfl, hse, hS2⟩ := hR2
        exact ⟨⟨.agg ⟨e.cells p c⟩, none, 0, 0, (e, p, c)⟩, rfl, ⟨rfl, he, hse⟩, hS'.seq hS2⟩
      · obtain ⟨hn, rfl, hf⟩ := hE
        replace hS' := hS'.grow hf
        rw [hn] at hR
        rw [frameOf (σ := σ') [(2, ptrAt (pb b2) 0), (3, int ((i : Int) + 1)), (4, ptrAt (pb b4) 0)] ⟨(hσ 2 (notDstB rfl)).trans rfl, (hσ 3 (notDstB rfl)).trans rfl, (hσ 4 (notDstB rfl)).trans rfl, trivial⟩]
        have h5 : Sep w w2 (pOwn b2 [.slice q ns.length cc] :: pOwn b4 [int 0] :: (pRow 4 q ns.length cc (ns.flatMap EvM.cells) :: pMany (ns.map EvM.row) :: pOwn bs (strs L) :: rest)) := by
          have h : Sep w w2 (pRow 4 q ns.length cc (ns.flatMap EvM.cells) :: pOwn b2 [.slice q ns.length cc] :: pMany (ns.map EvM.row) :: pOwn b4 [int 0] :: pOwn bs (strs L) :: rest) := hS'
          exact (h.front 3 rfl).front 2 rfl
        repeat (first | refine thn_panic ?_ | refine thl_panic ?_ | refine blk_panic ?_ | refine ngt_panic ?_)
        refine fp_panic ?_
        refine leave_fv (cap := [ptrAt (pb b2) 0, ptrAt (pb b4) 0]) (by simp [wrongE]) ?_
        refine parse1_caught b2 b4 (.slice q ns.length cc) w w2 _ h5 _ fun w5 hS5 => ?_
        refine leave_ctc (b1 := b2) (b3 := b4) rfl rfl ⟨rfl, rfl⟩ (hS5.own 0 rfl) (hS5.own 1 rfl) ?_
        rw [← hR]
        exact .inl ⟨Nat.succ_pos i, rfl, hS5.frm⟩
    · intro a σ' w' rest hσ hdep hS'   -- 3: buildSlice; pieces: sees 4, sees 5 ..
      refine ruleQ ?_
      have f2 := (hdep 2 _ rfl rfl).2
      have e22 := ((hdep 2 _ rfl rfl).1 22 rfl).trans f2.1
      obtain ⟨b, w2, hy, hS2⟩ := y_bs1 (P := Tryz.prog) (t := 22) (d := some 23) (x := .tmp 22) hS' e22 rfl rfl (Nat.le_of_ble_eq_true rfl) (Nat.le_of_ble_eq_true rfl)
      exact rule_y hy ⟨⟨.slice (pb b) 1 1, none, 0, b, (a 2).x⟩, rfl, ⟨rfl, rfl⟩, hS2⟩
    · intro a σ' w' rest hσ hdep hS'   -- 4: call; pieces: takes 3, base 4, sees 5 ..
      refine ruleQ ?_
      have f0 := (hdep 0 _ rfl rfl).2
      have e20 := ((hdep 0 _ rfl rfl).1 20 rfl).trans f0
      have f3 := (hdep 3 _ rfl rfl).2
      have e23 := ((hdep 3 _ rfl rfl).1 23 rfl).trans f3.1
      obtain ⟨p2, c2, w2, hy, hS2⟩ := y_app (P := Tryz.prog) (t := 22) (t' := 22) (ty := 22) (d := some 24) (x := .tmp 20) (y := .tmp 23) (n := 1) hS' 1 (hS'.own 0 rfl).sg rfl e20 e23 rfl (ev_one _ _ _) rfl (by decide) (by omega)
      exact rule_y hy ⟨⟨.slice p2 (ns.length + 1) c2, p2, c2, 0, (a 3).x⟩, rfl, ⟨rfl, rfl⟩, hS2.drop 0 rfl⟩
    · intro a σ' w' rest hσ hdep hS'   -- 5: store; pieces: base 5 ..
      refine ruleQ ?_
      have e2 : σ' 2 = ptrAt (pb b2) 0 := (hσ 2 (notDstB rfl)).trans rfl
      have f4 := (hdep 4 _ rfl rfl).2
      have e24 := ((hdep 4 _ rfl rfl).1 24 rfl).trans f4.1
      obtain ⟨w2, hy, hS2⟩ := y_sst (P := Tryz.prog) (t := 22) (x := .tmp 2) (y := .tmp 24) hS' 0 rfl e2 e24 rfl (Nat.le_of_ble_eq_true rfl) (by simp [Go.Value.cells, Go.Value.oneCell'])
      exact rule_y hy ⟨⟨undef, (a 4).p, (a 4).c, 0, (a 4).x⟩, rfl, ⟨rfl, rfl⟩, hS2⟩
    · intro a σ' w' hσ hA' hS'
      have h2 := (hA' 2 _ rfl).2
      have h3 := (hA' 3 _ rfl).2
      have h4 := (hA' 4 _ rfl).2
      have h5 := (hA' 5 _ rfl).2
      rw [frameOf (σ := σ') [(2, ptrAt (pb b2) 0), (3, int ((i : Int) + 1)), (4, ptrAt (pb b4) 0), (12, .slice (pb bs) L.length L.length), (13, int L.length), (14, int i)]
        ⟨(hσ 2 (notDst rfl)).trans rfl, (hσ 3 (notDst rfl)).trans rfl, (hσ 4 (notDst rfl)).trans rfl, (hσ 12 (notDst rfl)).trans rfl, (hσ 13 (notDst rfl)).trans rfl, (hσ 14 (notDst rfl)).trans rfl, trivial⟩]
      replace hS : Sep w w' [pRow 2 (a 2).x.2.1 (a 2).x.1.attrs.length (a 2).x.2.2 ((a 2).x.1.attrs.flatMap At.cells), pRow 4 (a 4).p (ns.length + 1) (a 4).c (ns.flatMap EvM.cells ++ (a 4).x.1.cells (a 4).x.2.1 (a 4).x.2.2), pOwn b2 [.slice (a 5).p (ns.length + 1) (a 5).c], pMany (ns.map EvM.row), pOwn b4 [int 0], pOwn bs (strs L)] := hS'
      rw [h4.2, h3.2, h5.1, h5.2] at hS
      obtain ⟨-, h2a, h2b⟩ := h2
      generalize (a 4).p = q' at *
      generalize (a 4).c = c' at *
      generalize (a 2).x = X at *
      obtain ⟨e, p2, c2⟩ := X
      dsimp only at h2a h2b hS
      clear hA' hS' hσ h3 h4 h5
      rw [h2a] at hR
      dsimp only at hR
      have hS2 : Sep w w' (pMany ((ns ++ [(⟨e, p2, c2⟩ : EvM)]).map EvM.row) :: [pRow 4 q' (ns.length + 1) c' (ns.flatMap EvM.cells ++ e.cells p2 c2), pOwn b2 [.slice q' (ns.length + 1) c'], pOwn b4 [int 0], pOwn bs (strs L)]) := by
        have h := ((hS.front 3 rfl).front 1 rfl).more
        rw [List.map_append]
        exact h
      have hS3 := (hS2.front 2 rfl).front 2 rfl
      have hnl2 : ns.length + 1 = (ns ++ [(⟨e, p2, c2⟩ : EvM)]).length := by rw [List.length_append]; rfl
      rw [hnl2, show ns.flatMap EvM.cells ++ e.cells p2 c2 = (ns ++ [(⟨e, p2, c2⟩ : EvM)]).flatMap EvM.cells from evs_flat ns ⟨e, p2, c2⟩] at hS3
      clear hS hS2
      refine sgo ?_
      refine ⟨(i + 1, q', c', ns ++ [⟨e, p2, c2⟩]), ⟨rfl, rfl, rfl, rfl, rfl, rfl, trivial⟩, ⟨hlt, ?_, ?_, fun m hm => ?_, hS3⟩, (by (try dsimp only); omega)⟩
      · dsimp only; rw [evs_snoc]; exact hR
      · dsimp only; rw [List.length_append, hnl]; rfl
      · rcases List.mem_append.1 hm with hm | hm
        · exact hsm m hm
        · rw [List.mem_singleton.1 hm]; exact h2b
  · obtain rfl : i = L.length := by omega
    rw [List.drop_length, evPF] at hR
    refine sgo ?_
    refine sst_slice hS 1 fun w5 hS => ?_
    refine sgo ?_
    refine sst_int hS 3 fun w6 hS => ?_
    refine sgo ?_
    refine fp_leave (.inl rfl) ?_
    refine leave_fv (cap := [ptrAt (pb b2) 0, ptrAt (pb b4) 0]) (by simp) ?_
    refine parse1_back b2 b4 _ _ ?_
    refine leave_ctc (b1 := b2) (b3 := b4) rfl rfl ⟨rfl, rfl⟩ (hS.own 1 rfl) (hS.own 3 rfl) ?_
    rw [← hR]
    refine .inr ⟨rfl, q, cc, ns, rfl, rfl, hsm, by omega, ?_⟩
    exact ((hS.drop 4 rfl).drop 3 rfl).drop 1 rfl
end Go.Proofs.YthgbpgjpnaanlaaGreatDoor

/-
  Events as lines: what the package reads is what the document reads; plain laws.
-/
set_option linter.unusedSimpArgs false
set_option linter.unusedVariables false
set_option linter.unnecessarySimpa false
namespace Go.Proofs.YthgbpgjpnaanlaaGreatDoor
open Go Go.Sv Go.RowKit

theorem esc_sp {c : UInt8} (h34 : c.toNat ≠ 34) (h9 : c.toNat ≠ 9) (h92 : c.toNat ≠ 92) (h10 : c.toNat ≠ 10) : esc c = [c] := by
  have key : ∀ n : UInt8, c.toNat ≠ n.toNat → ¬ c = n := fun n h h' => h (by rw [h'])
  unfold esc
  rw [if_neg (key 10 h10), if_neg (key 9 h9), if_neg (key 34 h34), if_neg (key 92 h92)]
/-- a text that is read between marks was printed so -/
theorem unq_inv : ∀ (n : Nat) (l acc t r : List UInt8), l.length ≤ n → (∀ c ∈ l, c.toNat ≠ 10) → unqR l acc = some (t, r) → ∃ t', t = acc ++ t' ∧ l = t'.flatMap esc ++ 34 :: r
  | n, [], acc, t, r, hn, hno, h => by simp [unqR] at h
  | 0, c :: l, acc, t, r, hn, hno, h => by simp at hn
  | n + 1, c :: l, acc, t, r, hn, hno, h => by
    simp only [List.length_cons] at hn
    have hc10 := hno c (by simp)
    have hnl : ∀ c ∈ l, c.toNat ≠ 10 := fun x hx => hno x (List.mem_cons_of_mem _ hx)
    rw [unqR_cons] at h
    by_cases h34 : c.toNat = 34
    · rw [if_pos h34] at h
      injection h with h; injection h with h1 h2
      subst h1 h2
      have : c = 34 := UInt8.toNat_inj.1 h34
      subst this
      exact ⟨[], by simp, by simp⟩
    rw [if_neg h34] at h
    by_cases h9 : c.toNat = 9
    · rw [if_pos h9] at h; cases h
    rw [if_neg h9] at h
    by_cases h92 : c.toNat = 92
    · rw [if_pos h92] at h
      have hc : c = 92 := UInt8.toNat_inj.1 h92
      subst hc
      cases l with
      | nil => cases h
      | cons d l' =>
        simp only [List.length_cons] at hn
        have hnl' : ∀ c ∈ l', c.toNat ≠ 10 := fun x hx => hnl x (List.mem_cons_of_mem _ hx)
        have key : ∀ x : UInt8, esc x = [92, d] → unqR l' (acc ++ [x]) = some (t, r) → ∃ t', t = acc ++ t' ∧ 92 :: d :: l' = t'.flatMap esc ++ 34 :: r := fun x hx hu => by
          obtain ⟨t', h1, h2⟩ := unq_inv n l' _ t r (by omega) hnl' hu
          refine ⟨x :: t', by rw [h1]; simp, ?_⟩
          rw [List.flatMap_cons, hx, h2]
          rfl
        dsimp only at h
        by_cases h110 : d.toNat = 110
        · rw [if_pos h110] at h
          have : d = 110 := UInt8.toNat_inj.1 h110
          subst this
          exact key 10 rfl h
        rw [if_neg h110] at h
        by_cases h116 : d.toNat = 116
        · rw [if_pos h116] at h
          have : d = 116 := UInt8.toNat_inj.1 h116
          subst this
          exact key 9 rfl h
        rw [if_neg h116] at h
        by_cases h2 : d.toNat = 34 ∨ d.toNat = 92
        · rw [if_pos h2] at h
          rcases h2 with h2 | h2
          · have : d = 34 := UInt8.toNat_inj.1 h2
            subst this
            exact key 34 rfl h
          · have : d = 92 := UInt8.toNat_inj.1 h2
            subst this
            exact key 92 rfl h
        · rw [if_neg h2] at h; cases h
    · rw [if_neg h92] at h
      obtain ⟨t', h1, h2⟩ := unq_inv n l _ t r (by omega) hnl h
      refine ⟨c :: t', by rw [h1]; simp, ?_⟩
      rw [List.flatMap_cons, esc_sp h34 h9 h92 hc10, h2]
      rfl
theorem qtx_inv {l t r : List UInt8} (hno : ∀ c ∈ l, c.toNat ≠ 10) (h : qtxR l = some (t, r)) : l = quoteR t ++ r := by
  cases l with
  | nil => cases h
  | cons c l =>
    by_cases hc : c.toNat = 34
    · rw [qtxR, if_pos hc] at h
      obtain ⟨t', h1, h2⟩ := unq_inv l.length l [] t r (Nat.le_refl _) (fun x hx => hno x (List.mem_cons_of_mem _ hx)) h
      rw [List.nil_append] at h1
      subst h1
      have : c = 34 := UInt8.toNat_inj.1 hc
      subst this
      rw [h2]
      unfold quoteR
      simp
    · rw [qtxR, if_neg hc] at h
      cases h
theorem qtx_end {s t r : List UInt8} (h : qtxR s = some (t, r)) : r <:+ s := (textR_suf h).1
theorem at1_inv {l r : List UInt8} {a : At} (hno : ∀ c ∈ l, c.toNat ≠ 10) (h0 : l.take 2 = [32, 34]) (h : at1R l = some (a, r)) : l = atLine a ++ r := by
  match l, h0 with
  | c :: d :: l', h0 =>
    simp only [List.take_succ_cons, List.take_zero, List.cons.injEq, and_true] at h0
    obtain ⟨rfl, rfl⟩ := h0
    unfold at1R at h
    rw [List.drop_succ_cons, List.drop_zero] at h
    cases h1 : qtxR (34 :: l') with
    | none => rw [h1] at h; cases h
    | some x =>
      obtain ⟨n, r1⟩ := x
      rw [h1] at h
      dsimp only at h
      have e1 := qtx_inv (fun x hx => hno x (List.mem_cons_of_mem _ hx)) h1
      have hsf := (qtx_end h1)
      split at h
      · rename_i h61
        cases h2 : qtxR (r1.drop 1) with
        | none => rw [h2] at h; cases h
        | some y =>
          obtain ⟨v, r2⟩ := y
          rw [h2] at h
          injection h with h; injection h with h3 h4
          subst h3 h4
          have hno2 : ∀ c ∈ r1.drop 1, c.toNat ≠ 10 := fun x hx => hno x (List.mem_cons_of_mem _ (hsf.subset (List.mem_of_mem_drop hx)))
          have e2 := qtx_inv hno2 h2
          match r1, h61 with
          | e :: r1', h61 =>
            have : e = 61 := by simpa using h61
            subst this
            rw [List.drop_succ_cons, List.drop_zero] at e2
            rw [e1, e2]
            unfold atLine
            simp
      · cases h
theorem ats_inv : ∀ (n : Nat) (l : List UInt8) (acc es : List At) (r : List UInt8), l.length ≤ n → (∀ c ∈ l, c.toNat ≠ 10) → atsR l acc = some (es, r) → ∃ es', es = acc ++ es' ∧ l = es'.flatMap atLine ++ r
  | n, l, acc, es, r, hn, hno, h => by
    by_cases h2 : l.take 2 = [32, 34]
    · cases h1 : at1R l with
      | none => rw [atsR_bad h2 h1] at h; cases h
      | some x =>
        obtain ⟨a, r1⟩ := x
        rw [atsR_yes h2 h1] at h
        obtain ⟨a1, a2, a3⟩ := at1R_suf h1
        have e1 := at1_inv hno h2 h1
        cases n with
        | zero => omega
        | succ n =>
          obtain ⟨es', h3, h4⟩ := ats_inv n r1 (acc ++ [a]) es r (by omega) (fun x hx => hno x (a1.subset hx)) h
          refine ⟨a :: es', by rw [h3]; simp, ?_⟩
          rw [e1, h4, List.flatMap_cons, List.append_assoc]
    · rw [atsR_end h2] at h
      injection h with h; injection h with h3 h4
      subst h3 h4
      exact ⟨[], by simp, by simp⟩
theorem cutB_eq : ∀ s : List UInt8, s = (cutB s).1 ++ 32 :: (cutB s).2 ∨ ((cutB s).1 = s ∧ (cutB s).2 = [])
  | [] => .inr ⟨rfl, rfl⟩
  | c :: l => by
    unfold cutB
    by_cases hc : c.toNat = 32
    · rw [if_pos hc]
      have : c = 32 := UInt8.toNat_inj.1 hc
      subst this
      exact .inl rfl
    · rw [if_neg hc]
      rcases cutB_eq l with h | ⟨h1, h2⟩
      · left; dsimp only; rw [List.cons_append, ← h]
      · right; dsimp only; rw [h1]; exact ⟨rfl, h2⟩
def kkOf (k : Nat) : Nat := if k = 0 then 0 else if k = 2 then 2 else 1
theorem ew1_word {k : Nat} (h : k < 4) : wordsL[kkOf k]? = some (ew1 k) := by
  match k, h with
  | 0, _ => rfl
  | 1, _ => rfl
  | 2, _ => rfl
  | 3, _ => rfl
theorem evRead_line {s : List UInt8} {e : Ev} (hno : ∀ c ∈ s, c.toNat ≠ 10) (h : evRead s = some e) : evLine e = s := by
  unfold evRead at h
  have hcut := cutB_eq s
  have hsub : ∀ c ∈ (cutB s).2, c.toNat ≠ 10 := fun c hc => by
    rcases hcut with h1 | ⟨h1, h2⟩
    · rw [h1] at hno; exact hno c (by simp [hc])
    · rw [h2] at hc; cases hc
  generalize (cutB s).1 = word at *
  generalize (cutB s).2 = rest at *
  cases hw : evWord word with
  | none => rw [hw] at h; cases h
  | some k =>
    rw [hw] at h
    dsimp only at h
    have hk : k < 4 ∧ ew0 k = word := by
      unfold evWord at hw
      have h1 := List.find?_some hw
      have h2 := List.mem_of_find?_eq_some hw
      rw [List.mem_range] at h2
      exact ⟨h2, by simpa using h1⟩
    obtain ⟨hk4, rfl⟩ := hk
    have hnl : ∀ c ∈ ew1 (k : Int) ++ 32 :: rest, c.toNat ≠ 10 := fun c hc => by
      have key : ∀ w : List UInt8, (w.all fun x => !decide (x.toNat = 10)) = true → ∀ x ∈ w, x.toNat ≠ 10 := fun w hw x hx => by
        have := List.all_eq_true.1 hw x hx; simpa using this
      rw [List.mem_append, List.mem_cons] at hc
      rcases hc with hc | rfl | hc
      · match k, hk4 with
        | 0, _ => exact key _ rfl c hc
        | 1, _ => exact key _ rfl c hc
        | 2, _ => exact key _ rfl c hc
        | 3, _ => exact key _ rfl c hc
      · decide
      · exact hsub c hc
    have hlr : linesR (ew1 (k : Int) ++ 32 :: rest) = [ew1 (k : Int) ++ 32 :: rest] := linesR_one hnl (by simp)
    have hpr : parseR (ew1 (k : Int) ++ 32 :: rest) = match readR (ew1 (k : Int) ++ 32 :: rest) with | none => ([], 1) | some t => ([t], 0) := by
      unfold parseR
      rw [hlr, parseF]
      cases readR (ew1 (k : Int) ++ 32 :: rest) with
      | none => rfl
      | some t => rfl
    rw [hpr] at h
    cases hr : readR (ew1 (k : Int) ++ 32 :: rest) with
    | none => rw [hr] at h; cases h
    | some t =>
      rw [hr] at h
      replace h : (if (t.self = false ∧ evR ⟨k, t.name, t.text, t.attrs⟩ = true) ∧ (rest.all fun c => !decide (c.toNat = 10)) = true then some (⟨k, t.name, t.text, t.attrs⟩ : Ev) else none) = some e := h
      split at h
      · rename_i hcond
        obtain ⟨⟨hself, hev⟩, -⟩ := hcond
        injection h with h
        have hp : (ew1 (k : Int)).isPrefixOf (ew1 (k : Int) ++ 32 :: rest) = true := by rw [List.isPrefixOf_iff_prefix]; exact List.prefix_append _ _
        rw [read_at (kkOf k) _ _ (ew1_word hk4) hp, List.drop_left] at hr
        have hkk4 : kkOf k ≠ 4 := by unfold kkOf; split; · decide
                                     split <;> decide
        cases hq : qtxR rest with
        | none => rw [tok_none (head_bad (s := 32 :: rest) hkk4 rfl hq)] at hr; cases hr
        | some x =>
          obtain ⟨x, r⟩ := x
          have e1 := qtx_inv hsub hq
          have hh := head_yes hkk4 (s := 32 :: rest) rfl hq
          have hsf : r <:+ rest := qtx_end hq
          have hne : rest ≠ [] := by rintro rfl; cases hq
          have hs : s = ew0 k ++ 32 :: rest := by
            rcases hcut with h1 | ⟨_, h2⟩
            · exact h1
            · exact absurd h2 hne
          unfold tokR at hr
          rw [hh] at hr
          cases ha : atsR r [] with
          | none =>
            exfalso
            by_cases h12 : kkOf k = 1 ∨ kkOf k = 2
            · rw [if_pos h12] at hr; dsimp only at hr; rw [ha] at hr; cases hr
            · rw [if_neg h12] at hr; dsimp only at hr; rw [ha] at hr; cases hr
          | some y =>
            obtain ⟨es, r2⟩ := y
            obtain ⟨es', h3, h4⟩ := ats_inv r.length r [] es r2 (Nat.le_refl _) (fun c hc => hsub c (hsf.subset hc)) ha
            rw [List.nil_append] at h3
            subst h3
            have hT : ∃ nm tx, (if kkOf k = 1 ∨ kkOf k = 2 then (x, [], r) else (([] : List UInt8), x, r)) = (nm, tx, r) ∧ (k ≠ 0 → nm = x) ∧ (k = 0 → tx = x) := by
              unfold kkOf
              match k, hk4 with
              | 0, _ => exact ⟨[], x, rfl, fun h => absurd rfl h, fun _ => rfl⟩
              | 1, _ => exact ⟨x, [], rfl, fun _ => rfl, fun h => by cases h⟩
              | 2, _ => exact ⟨x, [], rfl, fun _ => rfl, fun h => by cases h⟩
              | 3, _ => exact ⟨x, [], rfl, fun _ => rfl, fun h => by cases h⟩
            obtain ⟨nm, tx, hT, hn1, hn2⟩ := hT
            rw [hT] at hr
            dsimp only at hr
            rw [ha] at hr
            dsimp only at hr
            split at hr
            · rename_i hc2
              injection hr with hr
              subst hr
              dsimp only at hself hev h
              have hr2 : r2 = [] := by
                rcases hc2.1 with h5 | h5
                · exact h5
                · rw [h5] at hself; cases hself
              subst hr2 h
              rw [List.append_nil] at h4
              rw [refEvLine_eq hev, hs, e1, h4]
              dsimp only
              by_cases h0 : k = 0
              · subst h0
                rw [if_pos (by rfl), hn2 rfl]
                have h5 : es = [] := by
                  unfold evR at hev
                  rw [if_pos (by rfl)] at hev
                  simp only [Bool.and_eq_true, decide_eq_true_eq] at hev
                  exact List.eq_nil_of_length_eq_zero hev.2
                rw [h5]
                simp
              · rw [if_neg (by omega), hn1 h0]
            · cases hr
      · cases h
theorem refRead_eq {s : List UInt8} (hno : ∀ c ∈ s, c.toNat ≠ 10) : refReadR s = evRead s := by
  cases h : evRead s with
  | some e =>
    have hl := evRead_line hno h
    have hv : evR e = true := by
      unfold evRead at h
      split at h
      · cases h
      · split at h
        · split at h
          · rename_i hc
            injection h with h
            rw [← h]
            exact hc.1.2
          · cases h
        · cases h
    rw [← hl]
    exact refRead_back hv
  | none =>
    cases h2 : refReadR s with
    | none => rfl
    | some e =>
      obtain ⟨h3, h4⟩ := refF_some _ _ _ _ h2
      rw [← h4, evRead_back h3] at h
      cases h
end Go.Proofs.YthgbpgjpnaanlaaGreatDoor

/-
  Package sieveref18: Line, Print, take.
-/
set_option linter.unusedSimpArgs false
set_option linter.unusedVariables false
set_option linter.unnecessarySimpa false
namespace Go.Proofs.YthgbpgjpnaanlaaGreatDoor
open Go Go.Sv Go.RowKit

def ewS : List (List UInt8) := [ew0 0, ew0 1, ew0 2, ew0 3]
theorem ewS_at {k : Nat} (h : k < 4) : (strs ewS)[k]? = some (str (ew0 k)) := by
  match k, h with
  | 0, _ => rfl
  | 1, _ => rfl
  | 2, _ => rfl
  | 3, _ => rfl
theorem ats_len : ∀ es : List At, (es.flatMap atLine).length ≤ 2 * (es.map At.wt).sum
  | [] => by simp
  | x :: es => by
    have ih := ats_len es
    rw [List.flatMap_cons, List.length_append, List.map_cons, List.sum_cons]
    have h1 := quoteR_len x.n
    have h2 := quoteR_len x.v
    have h3 : (atLine x).length = (quoteR x.n).length + (quoteR x.v).length + 2 := by unfold atLine; simp; omega
    have h4 : At.wt x = x.n.length + x.v.length + 3 := rfl
    omega
set_option maxHeartbeats 4000000 in
theorem refEvLine_ok (e : Ev) (p : Option Addr) (c : Nat) (he : evR e = true) (hw : e.wt ≤ 1048576) (w : World) (hi : Im [] w p (e.attrs.flatMap At.cells)) :
    PureC Tryz.prog 20 #[.agg ⟨e.cells p c⟩] w (str (evLine e)) := by
  have hs := Ev.small_of hw
  have hk := evR_kind he
  have hline := refEvLine_eq he
  have hmf := may_facts _ (evTok_may he)
  have hvt : e.kind = 0 → validR e.text = true := fun h0 => by
    have := hmf.text (.inl (by unfold evTok; rw [if_pos h0]))
    unfold evTok at this; rw [if_pos h0] at this; exact this
  have hvn : e.kind ≠ 0 → validR e.name = true := fun h0 => by
    have := hmf.name (by unfold evTok; rw [if_neg h0]; split; · right; rfl
                         · left; rfl)
    unfold evTok at this; rw [if_neg h0] at this
    split at this <;> exact this
  have hva : e.kind ≠ 0 → ∀ x ∈ e.attrs, validR x.n = true ∧ validR x.v = true := fun h0 => by
    by_cases h2 : e.kind = 2
    · have ha : e.attrs = [] := by
        unfold evR at he
        rw [if_neg (by omega), if_neg (by omega), if_neg (by omega), if_pos h2] at he
        simp only [Bool.and_eq_true, decide_eq_true_eq] at he
        exact List.eq_nil_of_length_eq_zero he.1.2
      rw [ha]; intro x hx; cases hx
    · have := hmf.attrs
      unfold evTok at this; rw [if_neg h0, if_neg h2] at this; exact this
  obtain ⟨k, nm, tx, es⟩ := e
  dsimp only at hk hline hvt hvn hva hi
  unfold Ev.wt at hw
  dsimp only at hw
  have hfl := fm_len At.len es
  have hesl : es.length ≤ 1048576 := hs.attrs
  have hqn := quoteR_len nm
  have hqt := quoteR_len tx
  have hwl := ew0_len k
  obtain ⟨kn, hkn, hk4⟩ : ∃ kn : Nat, k = (kn : Int) ∧ kn < 4 := by
    rcases hk with hk | hk | hk | hk
    · exact ⟨0, hk, by decide⟩
    · exact ⟨1, hk, by decide⟩
    · exact ⟨2, hk, by decide⟩
    · exact ⟨3, hk, by decide⟩
  subst hkn
  have hxw := ewS_at hk4
  refine enter (l := [.agg ⟨Ev.cells ⟨kn, nm, tx, es⟩ p c⟩]) Tryz.func20 rfl Tryz.ntmps20 (by kernel_rfl) rfl ?_
  have hS := Sep.start w
  refine sgo ?_
  refine sbox (v := .agg ⟨Ev.cells ⟨kn, nm, tx, es⟩ p c⟩) hS fun b w1 hS => ?_
  replace hS : Sep w w1 [pOwn b [int kn, str nm, str tx, .slice p es.length c]] := hS
  refine sgo ?_
  refine wlbsn (vs := strs ewS) 4 (fun b4 w4 hb4 o4 hf4 => ?_) (h1 := by intro v hv; obtain ⟨x, _, rfl⟩ := List.mem_map.1 hv; rfl)
  replace hS := hS.push (c := pOwn b4 (strs ewS)) hf4 o4 (by intro x hx; simp [pOwn] at hx; omega)
  have hl4 : (strs ewS).length = 4 := rfl
  refine sgo ?_
  by_cases h0 : (kn : Int) = 0
  · refine wcyes ?_ (ht := by simp [h0])
    rw [if_pos h0] at hline
    refine sgo ?_
    refine wlpure (quoted18_ok tx (hvt h0) hs.text _) fun w5 hf5 => ?_
    replace hS := hS.grow hf5
    refine sgo ?_
    (first | refine fp1 (.inl rfl) rfl rfl ?_ | refine fp2 (.inl rfl) rfl rfl rfl ?_ | refine fp3 (.inl rfl) rfl rfl rfl rfl ?_ | refine fp0 (.inr rfl) rfl ?_ | refine fp0 (.inl rfl) rfl ?_ | refine fp1 (.inr rfl) rfl rfl ?_); refine ⟨?_, by (first | exact Frm.refl _ | assumption | exact Go.Sv.Sep.frm (by assumption) | (refine Frm.trans ?_ (by assumption); first | exact Frm.refl _ | assumption))⟩; (try simp only [realB, rv_true, Nat.reduceBEq, cond_true, cond_false, entG, real_lif, updGL])
    rw [hline]
    simp
  · refine wcno ?_ (ht := decide_eq_false h0)
    rw [if_neg h0] at hline
    refine sgo ?_
    refine wlpure (quoted18_ok nm (hvn h0) hs.name _) fun w5 hf5 => ?_
    replace hS := hS.grow hf5
    refine sgo ?_
    refine wcloop (X := Nat) (fun i => [(3, str (ew0 kn ++ 32 :: quoteR nm ++ (es.take i).flatMap atLine)), (26, .slice p es.length c), (27, int es.length), (28, int i)])
      (fun i wr => i ≤ es.length ∧ Frm w wr) (fun i => es.length - i) 0 ⟨(show str _ = str _ from by simp), rfl, rfl, rfl, trivial⟩ ⟨Nat.zero_le _, hS.frm⟩ ?_
    clear hS
    rintro i wr ρ ⟨hil, hfr⟩
    have hS := (Sep.start w).grow hfr
    have hal := ats_len (es.take i)
    have hal2 := sum_take At.wt es i
    have hl3 : (ew0 (kn : Int) ++ 32 :: quoteR nm ++ (es.take i).flatMap atLine).length ≤ 8000000 := by simp only [List.length_append, List.length_cons]; omega
    have hvn0 := hva h0
    refine sgo ?_
    (show WC _ _ _ _ _ _ _; first | refine WC_dec rfl (fun hc => ?_) (fun hc => ?_) | refine WC_cond rfl (fun hc => ?_) (fun hc => ?_))
    · have hlt : i < es.length := by omega
      clear hc
      have hSg := (hi.frm hS.frm).sg
      have hx : es[i]? = some es[i] := List.getElem?_eq_getElem hlt
      have hseg := fm_seg At.len es hx
      have htk : (es.take (i + 1)).flatMap atLine = (es.take i).flatMap atLine ++ atLine es[i] := by rw [List.take_add_one, hx, List.flatMap_append]; simp
      have hsm := hs.each es[i] (List.getElem_mem hlt)
      have hva1 := hvn0 es[i] (List.getElem_mem hlt)
      generalize es[i] = x at *
      have hxl := atLine_len x hsm
      have hps : ∃ q, p = some q := hSg.some (by omega)
      generalize hS0 : (ew0 (kn : Int) ++ 32 :: quoteR nm ++ (es.take i).flatMap atLine) = S at *
      refine sgo ?_
      rw [hseg]
      refine salloc hS fun b5 w6 hS => ?_
      refine sgo ?_
      refine ssta (vs := x.cells) hS 0 fun w7 hS => ?_
      replace hS : Sep w w7 [pOwn b5 [str x.n, str x.v]] := hS
      have hqn := quoteR_len x.n
      have hqv := quoteR_len x.v
      have hs1 := hsm.1
      have hs2 := hsm.2
      clear hseg hSg
      refine sgo ?_
      (first | refine WC_seq ?_ | skip); refine wcdraw ?_
      refine qgo ?_
      refine qlcallp (fun w _ => quoted18_ok x.n hva1.1 hsm.1 w) ?_
      refine qgo ?_
      refine qlcallp (fun w _ => quoted18_ok x.v hva1.2 hsm.2 w) ?_
      refine qgo ?_
      refine QL_nil ?_; intro wd hwd
      replace hS := hS.grow hwd
      refine sgo ?_
      refine ⟨i + 1, ⟨?_, rfl, rfl, rfl, trivial⟩, ⟨hlt, hS.frm⟩, by omega⟩
      show str _ = str _
      refine congrArg (fun l => str l) ?_
      rw [htk, ← hS0]
      simp [atLine]
    · have htk : es.take i = es := List.take_of_length_le (by omega)
      rw [htk]
      refine sgo ?_
      (first | refine fp1 (.inl rfl) rfl rfl ?_ | refine fp2 (.inl rfl) rfl rfl rfl ?_ | refine fp3 (.inl rfl) rfl rfl rfl rfl ?_ | refine fp0 (.inr rfl) rfl ?_ | refine fp0 (.inl rfl) rfl ?_ | refine fp1 (.inr rfl) rfl rfl ?_); refine ⟨?_, by (first | exact Frm.refl _ | assumption | exact Go.Sv.Sep.frm (by assumption) | (refine Frm.trans ?_ (by assumption); first | exact Frm.refl _ | assumption))⟩; (try simp only [realB, rv_true, Nat.reduceBEq, cond_true, cond_false, entG, real_lif, updGL])
      rw [hline]
      simp
/-! ## Print -/
set_option maxHeartbeats 4000000 in
theorem refEvPrint_ok (ms : List EvM) (p : Option Addr) (c : Nat) (hw : evw ms ≤ 1048576) (w : World) (hE : Evs w p ms) :
    PureC Tryz.prog 5 #[.slice p ms.length c] w (if (evs ms).all evR = true then .tuple #[str (evLns (evs ms)), .bool true] else .tuple #[str [], .bool false]) := by
  have hn : ms.length ≤ 1048576 := by
    have := sum_len (fun m : EvM => m.e.wt) ms (by intro m _; show 1 ≤ Ev.wt m.e; unfold Ev.wt; omega)
    unfold evw at hw; omega
  have hs : ∀ m ∈ ms, m.e.small := fun m hm => Ev.small_of (Nat.le_trans (sum_mem (fun m : EvM => m.e.wt) ms hm) hw)
  have hS := Sep.start w
  obtain ⟨R, hR⟩ : ∃ R, (evs ms).all evR = R := ⟨_, rfl⟩
  rw [hR]
  refine enter (l := [.slice p ms.length c]) Tryz.func5 rfl Tryz.ntmps5 (by kernel_rfl) rfl ?_
  refine sgo ?_
  refine wcloop (X := Nat) (fun i => [(4, str (evLns ((evs ms).take i))), (7, .slice p ms.length c), (8, int ms.length), (9, int i)])
    (fun i wr => i ≤ ms.length ∧ (∀ e ∈ (evs ms).take i, evR e = true) ∧ Frm w wr) (fun i => ms.length - i) 0 ⟨rfl, rfl, rfl, rfl, trivial⟩ ⟨Nat.zero_le _, by simp, hS.frm⟩ ?_
  clear hS
  rintro i wr ρ ⟨hil, hall, hfr⟩
  have hS := (Sep.start w).grow hfr
  have hal := evLns_take hall
  refine sgo ?_
  (show WC _ _ _ _ _ _ _; first | refine WC_dec rfl (fun hc => ?_) (fun hc => ?_) | refine WC_cond rfl (fun hc => ?_) (fun hc => ?_))
  · have hlt : i < ms.length := by omega
    clear hc
    have hSg := (hE.frm hS.frm).im.sg
    have hx : ms[i]? = some ms[i] := List.getElem?_eq_getElem hlt
    have hmem : ms[i] ∈ ms := List.getElem_mem hlt
    have hseg := fm_seg EvM.len ms hx
    have hfl := fm_len EvM.len ms
    have hps : ∃ q, p = some q := hSg.some (by omega)
    have hat := hE.each _ hmem
    have hsm := hs _ hmem
    have hwt : ms[i].e.wt ≤ 1048576 := Nat.le_trans (sum_mem (fun m : EvM => m.e.wt) ms hmem) hw
    have hsn := evLns_snoc (evs_at hx)
    have hex := evs_at hx
    have hnext : evR ms[i].e = true → ∀ e ∈ (evs ms).take (i + 1), evR e = true := fun h e he => by
      rw [List.take_add_one, hex] at he
      rcases List.mem_append.1 he with he | he
      · exact hall e he
      · have : e = ms[i].e := by simpa using he
        rw [this]; exact h
    have hbad : evR ms[i].e = false → R = false := fun h => by
      rw [← hR, List.all_eq_false]
      exact ⟨ms[i].e, List.mem_of_getElem? hex, by simp [h]⟩
    have hln : evR ms[i].e = true → (evLns ((evs ms).take i)).length + (evLn ms[i].e).length ≤ 5 * evw ms := fun h => by
      have := evLns_take (hnext h)
      rw [hsn, List.length_append] at this
      exact this
    generalize ms[i] = m at *
    generalize hacc : evLns ((evs ms).take i) = acc at *
    obtain ⟨e0, mp, mc⟩ := m
    have hline := fun w' h1 h2 => refEvLine_ok e0 mp mc h1 hwt w' h2
    have hchk := fun w' h => refEvCheck_ok e0 mp mc hsm w' h
    dsimp only at hln hbad hnext hsn hat
    obtain ⟨k, nm, tx, es⟩ := e0
    refine sgo ?_
    rw [hseg]
    refine salloc hS fun b6 w5 hS => ?_
    refine sgo ?_
    refine ssta (vs := [int k, str nm, str tx, .slice mp es.length mc]) hS 0 fun w6 hS => ?_
    replace hS : Sep w w6 [pOwn b6 [int k, str nm, str tx, .slice mp es.length mc]] := hS
    refine sgo ?_
    refine wlpure (hchk w6 (hat.sep hS)) fun w7 hf7 => ?_
    replace hS := hS.grow hf7
    cases he : evR ⟨k, nm, tx, es⟩ with
    | false =>
      have hRf := hbad he
      subst hRf
      simp only [Bool.false_eq_true, if_false]
      refine sgo ?_
      (first | refine fp1 (.inl rfl) rfl rfl ?_ | refine fp2 (.inl rfl) rfl rfl rfl ?_ | refine fp3 (.inl rfl) rfl rfl rfl rfl ?_ | refine fp0 (.inr rfl) rfl ?_ | refine fp0 (.inl rfl) rfl ?_ | refine fp1 (.inr rfl) rfl rfl ?_); refine ⟨?_, by (first | exact Frm.refl _ | assumption | exact Go.Sv.Sep.frm (by assumption) | (refine Frm.trans ?_ (by assumption); first | exact Frm.refl _ | assumption))⟩; (try simp only [realB, rv_true, Nat.reduceBEq, cond_true, cond_false, entG, real_lif, updGL])
    | true =>
      have hl4 := hln he
      have hall' := hnext he
      have hline' := hline w7 he (hat.sep hS)
      clear hln hnext hbad hchk hline
      have hll : (evLine ⟨k, nm, tx, es⟩).length ≤ 10485760 := by
        unfold evLn at hl4
        simp at hl4
        omega
      generalize hLN : evLine ⟨k, nm, tx, es⟩ = LN at *
      refine sgo ?_
      refine wlpure hline' fun w8 hf8 => ?_
      replace hS := hS.grow hf8
      refine sgo ?_
      refine ⟨i + 1, ⟨?_, rfl, rfl, rfl, trivial⟩, ⟨hlt, hall', hS.frm⟩, by omega⟩
      show str _ = str _
      refine congrArg (fun l => str l) ?_
      rw [hsn]
      unfold evLn
      rw [hLN]
  · obtain rfl : i = ms.length := by omega
    rw [← evs_len, List.take_length] at hall ⊢
    have hRt : R = true := by rw [← hR, List.all_eq_true]; exact hall
    rw [hRt]
    simp only [if_true]
    refine sgo ?_
    (first | refine fp1 (.inl rfl) rfl rfl ?_ | refine fp2 (.inl rfl) rfl rfl rfl ?_ | refine fp3 (.inl rfl) rfl rfl rfl rfl ?_ | refine fp0 (.inr rfl) rfl ?_ | refine fp0 (.inl rfl) rfl ?_ | refine fp1 (.inr rfl) rfl rfl ?_); refine ⟨?_, by (first | exact Frm.refl _ | assumption | exact Go.Sv.Sep.frm (by assumption) | (refine Frm.trans ?_ (by assumption); first | exact Frm.refl _ | assumption))⟩; (try simp only [realB, rv_true, Nat.reduceBEq, cond_true, cond_false, entG, real_lif, updGL])
end Go.Proofs.YthgbpgjpnaanlaaGreatDoor

/-
  Package sieveref18: take, Read.
-/
set_option linter.unusedSimpArgs false
set_option linter.unusedVariables false
set_option linter.unnecessarySimpa false
namespace Go.Proofs.YthgbpgjpnaanlaaGreatDoor
open Go Go.Sv Go.RowKit

def tkV (o : Option (List UInt8 × List UInt8)) : Value := match o with
  | some (t, r) => .tuple #[str t, str r, .bool true]
  | none => .tuple #[str [], str [], .bool false]
set_option maxHeartbeats 4000000 in
theorem take18_ok (s : List UInt8) (hb : s.length ≤ 16777216) (w : World) : PureC Tryz.prog 46 #[str s] w (tkV (tkR s)) := by
  cases s with
  | nil =>
    refine enter (l := [str []]) Tryz.func46 rfl Tryz.ntmps46 (by kernel_rfl) rfl ?_
    have hz : ([] : List UInt8).length = 0 := rfl
    refine sgo ?_
    (first | refine fp1 (.inl rfl) rfl rfl ?_ | refine fp2 (.inl rfl) rfl rfl rfl ?_ | refine fp3 (.inl rfl) rfl rfl rfl rfl ?_ | refine fp0 (.inr rfl) rfl ?_ | refine fp0 (.inl rfl) rfl ?_ | refine fp1 (.inr rfl) rfl rfl ?_); refine ⟨?_, by (first | exact Frm.refl _ | assumption | exact Go.Sv.Sep.frm (by assumption) | (refine Frm.trans ?_ (by assumption); first | exact Frm.refl _ | assumption))⟩; (try simp only [realB, rv_true, Nat.reduceBEq, cond_true, cond_false, entG, real_lif, updGL])
    all_goals rfl
  | cons c0 l0 =>
    obtain ⟨R, hR⟩ : ∃ R, tkR (c0 :: l0) = R := ⟨_, rfl⟩
    rw [hR]
    have h0 : (c0 :: l0)[0]?.getD 0 = c0 := rfl
    have hpos : 0 < (c0 :: l0).length := by simp
    have hne : ¬ (c0 :: l0) = [] := by simp
    have ht : tkR (c0 :: l0) = if c0.toNat = 34 then tkqR ((c0 :: l0).drop 1) [] else none := rfl
    rw [hR] at ht
    clear hR
    generalize c0 :: l0 = s at *
    refine enter (l := [str s]) Tryz.func46 rfl Tryz.ntmps46 (by kernel_rfl) rfl ?_
    have hS := Sep.start w
    refine sgo ?_
    simp only [h0]
    rcases Nat.decEq c0.toNat 34 with hc0 | hc0
    · refine wcyes ?_ (ht := by simp [pkb, hne]; omega)
      rw [if_neg hc0] at ht
      rw [ht]
      refine sgo ?_
      (first | refine fp1 (.inl rfl) rfl rfl ?_ | refine fp2 (.inl rfl) rfl rfl rfl ?_ | refine fp3 (.inl rfl) rfl rfl rfl rfl ?_ | refine fp0 (.inr rfl) rfl ?_ | refine fp0 (.inl rfl) rfl ?_ | refine fp1 (.inr rfl) rfl rfl ?_); refine ⟨?_, by (first | exact Frm.refl _ | assumption | exact Go.Sv.Sep.frm (by assumption) | (refine Frm.trans ?_ (by assumption); first | exact Frm.refl _ | assumption))⟩; (try simp only [realB, rv_true, Nat.reduceBEq, cond_true, cond_false, entG, real_lif, updGL])
      all_goals rfl
    rw [if_pos hc0] at ht
    refine wcno ?_ (ht := by simp [pkb, hne]; omega)
    refine sgo ?_
    replace hS : Sep w w [pRow 1 none 0 0 []] := hS.nilRow 1
    refine wcloop (X := Nat × List UInt8 × Option Addr × Nat) (fun x => [(0, str s), (5, .slice x.2.2.1 x.2.1.length x.2.2.2), (6, int x.1)])
      (fun x wr => 1 ≤ x.1 ∧ x.1 ≤ s.length ∧ tkqR (s.drop x.1) x.2.1 = R ∧ x.2.1.length ≤ x.1 ∧ Sep w wr [pRow 1 x.2.2.1 x.2.1.length x.2.2.2 (bs x.2.1)]) (fun x => s.length - x.1) (1, [], none, 0) ⟨rfl, rfl, rfl, trivial⟩ ⟨Nat.le_refl _, hpos, ht.symm, Nat.zero_le _, hS⟩ ?_
    clear hS
    rintro ⟨i, acc, q, cc⟩ wr ρ ⟨hi1, hil, hu, hal, hS⟩
    dsimp only at hi1 hil hu hal hS ⊢
    clear ht hne h0 hpos hc0
    refine sgo ?_
    (show WC _ _ _ _ _ _ _; first | refine WC_dec rfl (fun hc => ?_) (fun hc => ?_) | refine WC_cond rfl (fun hc => ?_) (fun hc => ?_))
    · have hlt : i < s.length := by omega
      clear hc
      obtain ⟨c, hx⟩ : ∃ c, s[i]? = some c := ⟨_, List.getElem?_eq_getElem hlt⟩
      refine sgo ?_
      have hg : s[i]?.getD 0 = c := by rw [hx]; rfl
      simp only [hg]
      (show WC _ _ _ _ _ _ _; first | refine WC_dec rfl (fun hc => ?_) (fun hc => ?_) | refine WC_cond rfl (fun hc => ?_) (fun hc => ?_))
      · have hc34 : c.toNat = 34 := by omega
        clear hc
        rw [tkq_mark hx hc34] at hu
        subst hu
        refine sgo ?_
        refine wcdraw ?_
        refine qgo ?_
        refine ql (v := str acc) ?_ (YQ.ofY fun w' hw' => y_b2s rfl ((hS.grow hw').row 0 rfl).sg)
        refine qgo ?_
        refine QL_nil ?_
        intro w3 hf3
        replace hS := hS.grow hf3
        refine thn_normal ?_
        refine sgo ?_
        rw [show ((i : Int) + 1).toNat = i + 1 from by omega]
        (first | refine fp1 (.inl rfl) rfl rfl ?_ | refine fp2 (.inl rfl) rfl rfl rfl ?_ | refine fp3 (.inl rfl) rfl rfl rfl rfl ?_ | refine fp0 (.inr rfl) rfl ?_ | refine fp0 (.inl rfl) rfl ?_ | refine fp1 (.inr rfl) rfl rfl ?_); refine ⟨?_, by (first | exact Frm.refl _ | assumption | exact Go.Sv.Sep.frm (by assumption) | (refine Frm.trans ?_ (by assumption); first | exact Frm.refl _ | assumption))⟩; (try simp only [realB, rv_true, Nat.reduceBEq, cond_true, cond_false, entG, real_lif, updGL])
        all_goals rfl
      have h34 : c.toNat ≠ 34 := by omega
      clear hc
      refine sgo ?_
      (show WC _ _ _ _ _ _ _; first | refine WC_dec rfl (fun hc => ?_) (fun hc => ?_) | refine WC_cond rfl (fun hc => ?_) (fun hc => ?_))
      · have hc92 : c.toNat = 92 := by omega
        clear hc
        refine sgo ?_
        (show WC _ _ _ _ _ _ _; first | refine WC_dec rfl (fun hc => ?_) (fun hc => ?_) | refine WC_cond rfl (fun hc => ?_) (fun hc => ?_))
        · have hio : s.length ≤ i + 1 := by omega
          rw [tkq_esc_out hx hc92 hio] at hu
          subst hu
          refine sgo ?_
          (first | refine fp1 (.inl rfl) rfl rfl ?_ | refine fp2 (.inl rfl) rfl rfl rfl ?_ | refine fp3 (.inl rfl) rfl rfl rfl rfl ?_ | refine fp0 (.inr rfl) rfl ?_ | refine fp0 (.inl rfl) rfl ?_ | refine fp1 (.inr rfl) rfl rfl ?_); refine ⟨?_, by (first | exact Frm.refl _ | assumption | exact Go.Sv.Sep.frm (by assumption) | (refine Frm.trans ?_ (by assumption); first | exact Frm.refl _ | assumption))⟩; (try simp only [realB, rv_true, Nat.reduceBEq, cond_true, cond_false, entG, real_lif, updGL])
          all_goals rfl
        have hlt2 : i + 1 < s.length := by omega
        clear hc
        obtain ⟨d, hd⟩ : ∃ d, s[i + 1]? = some d := ⟨_, List.getElem?_eq_getElem hlt2⟩
        rw [tkq_esc_at hx hc92 hd] at hu
        refine sgo ?_
        have hg2 : s[i + 1]?.getD 0 = d := by rw [hd]; rfl
        simp only [hg2]
        (show WC _ _ _ _ _ _ _; first | refine WC_dec rfl (fun hc => ?_) (fun hc => ?_) | refine WC_cond rfl (fun hc => ?_) (fun hc => ?_))
        · have h110 : d.toNat = 110 := by omega
          clear hc
          rw [if_pos h110] at hu
          refine sgo ?_
          refine sb1i hS fun b3 w3 hS => ?_
          refine sgo ?_
          refine sapp hS 1 (hS.own 0 rfl).sg (fun q' c' w4 hS => ?_)
          replace hS : Sep w w4 [pRow 1 q' (acc.length + 1) c' (bs acc ++ [.int .u8 10])] := hS.drop 0 rfl
          rw [show bs acc ++ [.int .u8 10] = bs (acc ++ [10]) by simp [bs]] at hS
          have hnl : acc.length + 1 = (acc ++ [10]).length := by simp
          rw [hnl] at hS ⊢
          refine sgo ?_
          exact ⟨(i + 2, acc ++ [10], q', c'), ⟨rfl, rfl, rfl, trivial⟩, ⟨by dsimp only; omega, by dsimp only; omega, hu, by simp; omega, hS⟩, by dsimp only; omega⟩
        have h110 : ¬ d.toNat = 110 := by omega
        clear hc
        rw [if_neg h110] at hu
        refine sgo ?_
        (show WC _ _ _ _ _ _ _; first | refine WC_dec rfl (fun hc => ?_) (fun hc => ?_) | refine WC_cond rfl (fun hc => ?_) (fun hc => ?_))
        · have h116 : d.toNat = 116 := by omega
          clear hc
          rw [if_pos h116] at hu
          refine sgo ?_
          refine sb1i hS fun b3 w3 hS => ?_
          refine sgo ?_
          refine sapp hS 1 (hS.own 0 rfl).sg (fun q' c' w4 hS => ?_)
          replace hS : Sep w w4 [pRow 1 q' (acc.length + 1) c' (bs acc ++ [.int .u8 9])] := hS.drop 0 rfl
          rw [show bs acc ++ [.int .u8 9] = bs (acc ++ [9]) by simp [bs]] at hS
          have hnl : acc.length + 1 = (acc ++ [9]).length := by simp
          rw [hnl] at hS ⊢
          refine sgo ?_
          exact ⟨(i + 2, acc ++ [9], q', c'), ⟨rfl, rfl, rfl, trivial⟩, ⟨by dsimp only; omega, by dsimp only; omega, hu, by simp; omega, hS⟩, by dsimp only; omega⟩
        have h116 : ¬ d.toNat = 116 := by omega
        clear hc
        rw [if_neg h116] at hu
        refine sgo ?_
        (show WC _ _ _ _ _ _ _; first | refine WC_dec rfl (fun hc => ?_) (fun hc => ?_) | refine WC_cond rfl (fun hc => ?_) (fun hc => ?_))
        · have h34d : d.toNat = 34 := by omega
          clear hc
          rw [if_pos (.inl h34d)] at hu
          refine sgo ?_
          refine wcyes ?_ (ht := by simp [h34d])
          refine sgo ?_
          simp only [hg2]
          refine sb1i hS fun b3 w3 hS => ?_
          refine sgo ?_
          refine sapp hS 1 (hS.own 0 rfl).sg (fun q' c' w4 hS => ?_)
          replace hS : Sep w w4 [pRow 1 q' (acc.length + 1) c' (bs acc ++ [byt d.toNat])] := hS.drop 0 rfl
          rw [show bs acc ++ [byt d.toNat] = bs (acc ++ [d]) by simp [bs]] at hS
          have hnl : acc.length + 1 = (acc ++ [d]).length := by simp
          rw [hnl] at hS ⊢
          refine sgo ?_
          exact ⟨(i + 2, acc ++ [d], q', c'), ⟨rfl, rfl, rfl, trivial⟩, ⟨by dsimp only; omega, by dsimp only; omega, hu, by simp; omega, hS⟩, by dsimp only; omega⟩
        have h34d : ¬ d.toNat = 34 := by omega
        clear hc
        refine sgo ?_
        (show WC _ _ _ _ _ _ _; first | refine WC_dec rfl (fun hc => ?_) (fun hc => ?_) | refine WC_cond rfl (fun hc => ?_) (fun hc => ?_))
        · have h92d : d.toNat = 92 := by omega
          clear hc
          rw [if_pos (.inr h92d)] at hu
          refine sgo ?_
          simp only [hg2]
          refine sb1i hS fun b3 w3 hS => ?_
          refine sgo ?_
          refine sapp hS 1 (hS.own 0 rfl).sg (fun q' c' w4 hS => ?_)
          replace hS : Sep w w4 [pRow 1 q' (acc.length + 1) c' (bs acc ++ [byt d.toNat])] := hS.drop 0 rfl
          rw [show bs acc ++ [byt d.toNat] = bs (acc ++ [d]) by simp [bs]] at hS
          have hnl : acc.length + 1 = (acc ++ [d]).length := by simp
          rw [hnl] at hS ⊢
          refine sgo ?_
          exact ⟨(i + 2, acc ++ [d], q', c'), ⟨rfl, rfl, rfl, trivial⟩, ⟨by dsimp only; omega, by dsimp only; omega, hu, by simp; omega, hS⟩, by dsimp only; omega⟩
        have h92d : ¬ d.toNat = 92 := by omega
        clear hc
        rw [if_neg (by rintro (h | h); exact h34d h; exact h92d h)] at hu
        subst hu
        refine sgo ?_
        (first | refine fp1 (.inl rfl) rfl rfl ?_ | refine fp2 (.inl rfl) rfl rfl rfl ?_ | refine fp3 (.inl rfl) rfl rfl rfl rfl ?_ | refine fp0 (.inr rfl) rfl ?_ | refine fp0 (.inl rfl) rfl ?_ | refine fp1 (.inr rfl) rfl rfl ?_); refine ⟨?_, by (first | exact Frm.refl _ | assumption | exact Go.Sv.Sep.frm (by assumption) | (refine Frm.trans ?_ (by assumption); first | exact Frm.refl _ | assumption))⟩; (try simp only [realB, rv_true, Nat.reduceBEq, cond_true, cond_false, entG, real_lif, updGL])
        all_goals rfl
      have h92 : c.toNat ≠ 92 := by omega
      clear hc
      rw [tkq_one hx h34 h92] at hu
      refine sgo ?_
      simp only [hg]
      refine sb1i hS fun b3 w3 hS => ?_
      refine sgo ?_
      refine sapp hS 1 (hS.own 0 rfl).sg (fun q' c' w4 hS => ?_)
      replace hS : Sep w w4 [pRow 1 q' (acc.length + 1) c' (bs acc ++ [byt c.toNat])] := hS.drop 0 rfl
      rw [show bs acc ++ [byt c.toNat] = bs (acc ++ [c]) by simp [bs]] at hS
      have hnl : acc.length + 1 = (acc ++ [c]).length := by simp
      rw [hnl] at hS ⊢
      refine sgo ?_
      exact ⟨(i + 1, acc ++ [c], q', c'), ⟨rfl, rfl, rfl, trivial⟩, ⟨by dsimp only; omega, by dsimp only; omega, hu, by simp; omega, hS⟩, by dsimp only; omega⟩
    · have hio : s.length ≤ i := by omega
      rw [tkq_out hio] at hu
      subst hu
      refine sgo ?_
      (first | refine fp1 (.inl rfl) rfl rfl ?_ | refine fp2 (.inl rfl) rfl rfl rfl ?_ | refine fp3 (.inl rfl) rfl rfl rfl rfl ?_ | refine fp0 (.inr rfl) rfl ?_ | refine fp0 (.inl rfl) rfl ?_ | refine fp1 (.inr rfl) rfl rfl ?_); refine ⟨?_, by (first | exact Frm.refl _ | assumption | exact Go.Sv.Sep.frm (by assumption) | (refine Frm.trans ?_ (by assumption); first | exact Frm.refl _ | assumption))⟩; (try simp only [realB, rv_true, Nat.reduceBEq, cond_true, cond_false, entG, real_lif, updGL])
      all_goals rfl
end Go.Proofs.YthgbpgjpnaanlaaGreatDoor

/-
  Package sieveref07, reading: Unquote, cut.
-/
set_option linter.unusedSimpArgs false
set_option linter.unusedVariables false
set_option linter.unnecessarySimpa false
namespace Go.Proofs.YthgbpgjpnaanlaaGreatDoor
open Go Go.Sv Go.RowKit

def unqV (s : List UInt8) (o : Option (List UInt8 × List UInt8)) : Value := match o with
  | some (t, r) => .tuple #[str t, str r, .bool true]
  | none => .tuple #[str [], str s, .bool false]
def rcutV (s p : List UInt8) : Value := .tuple #[str (if p.isPrefixOf s = true then s.drop p.length else s), .bool (p.isPrefixOf s)]
theorem pre_len {p l : List UInt8} : p.isPrefixOf l = (decide (p.length ≤ l.length) && decide (l.take p.length = p)) := by
  rw [Bool.eq_iff_iff, Bool.and_eq_true, decide_eq_true_eq, decide_eq_true_eq, List.isPrefixOf_iff_prefix]
  constructor
  · rintro ⟨t, rfl⟩; exact ⟨by simp, by rw [List.take_left]⟩
  · rintro ⟨_, h⟩; rw [← h]; exact List.take_prefix _ _








































































































































































































end Go.Proofs.YthgbpgjpnaanlaaGreatDoor

/-
  Regions that draw and write: guarded operations.
-/
set_option linter.unusedSimpArgs false
set_option linter.unusedVariables false
set_option linter.unnecessarySimpa false
namespace Go.Sv
open Go Go.RowKit
section
variable {P : Program} {ops : Array Oper} {S : (Nat → Bool) → World → Prop} {Qf : Env → Prop} {rest : List Oper} {σ : GE} {v : Value} {d k : Nat} {op : Op} {ty : TypeId} {pos : String} {af : Array Edge} {j dj : Nat} {want b c : Bool}
theorem qs_intro {o : Oper} {ρ : Env} (h : ∃ v, ((Region.wanted o (yl ops ρ) = true ∧ YA P ops S o k v (evl ρ)) ∨ (Region.wanted o (yl ops ρ) = false ∧ v = undef ∧ ∀ L w, Up ops o k L → S L w → S (on L k) w)) ∧ QS P ops S Qf (k + 1) rest (updO ρ o.dst v)) : QS P ops S Qf k (o :: rest) ρ := by
  with_unfolding_all exact h
theorem qs_gno (v : Value) (h : QS P ops S Qf (k + 1) rest (real (updG σ d ⟨v, false⟩))) (hj : (ops[j]?).bind (·.dst) = some dj := by rfl) (hσ : σ dj = ⟨.bool c, b⟩ := by rfl) (hgt : (b && (c == want)) = false := by rfl) (hi : ∀ L w, S L w → S (on L k) w := by exact fun _ _ h => h) :
    QS P ops S Qf k (⟨some d, op, ty, pos, af, some (j, want)⟩ :: rest) (real σ) := by
  refine qs_intro ?_
  exact ⟨undef, .inr ⟨by rw [wanted_real rfl hj hσ, hgt], rfl, fun L w _ hs => hi L w hs⟩, by rw [← real_upd] at h; exact h⟩
theorem qs_gyes (h : QS P ops S Qf (k + 1) rest (real (updG σ d ⟨v, true⟩))) (hy : ∀ L w, Up ops ⟨some d, op, ty, pos, af, some (j, want)⟩ k L → S L w → Y P (real σ) ⟨some d, op, ty, pos, af, some (j, want)⟩ w v w) (hj : (ops[j]?).bind (·.dst) = some dj := by rfl) (hσ : σ dj = ⟨.bool c, b⟩ := by rfl) (hgt : (b && (c == want)) = true := by rfl) (hi : ∀ L w, S L w → S (on L k) w := by exact fun _ _ h => h) :
    QS P ops S Qf k (⟨some d, op, ty, pos, af, some (j, want)⟩ :: rest) (real σ) := by
  refine qs_intro ?_
  exact ⟨v, .inl ⟨by rw [wanted_real rfl hj hσ, hgt], fun L w hu hs => sees_of_Y (hy L w hu hs) (hi L w hs)⟩, by rw [← real_upd] at h; exact h⟩
theorem qs_gpure {nd : Bool} (h : QS P ops S Qf (k + 1) rest (real (updG σ d ⟨v, true⟩))) (hj : (ops[j]?).bind (·.dst) = some dj := by rfl) (hσ : σ dj = ⟨.bool c, b⟩ := by rfl) (hgt : (b && (c == want)) = true := by rfl) (he : ev1 σ op = some ⟨v, nd⟩ := by rfl) (hn : nd = true := by rfl) (hi : ∀ L w, S L w → S (on L k) w := by exact fun _ _ h => h) :
    QS P ops S Qf k (⟨some d, op, ty, pos, af, some (j, want)⟩ :: rest) (real σ) := qs_gyes h (fun _ _ _ _ => ev1_ok he hn) hj hσ hgt hi
theorem qs_gcall {f : FuncId} [hf : Fnc P f] {args : List Operand} {ats : Array TypeId} {vals : List Value} (hc : ∀ L w, S L w → PureC P f vals.toArray w v) (h : QS P ops S Qf (k + 1) rest (real (updG σ d ⟨v, true⟩)))
    (hi : ∀ L w w', S L w → Frm w w' → S (on L k) w') (ha : args.map (evl (real σ)) = vals := by rfl) (hj : (ops[j]?).bind (·.dst) = some dj := by rfl) (hσ : σ dj = ⟨.bool c, b⟩ := by rfl) (hgt : (b && (c == want)) = true := by rfl) :
    QS P ops S Qf k (⟨some d, .call ⟨.value (.func f), args.toArray, ats⟩, ty, pos, af, some (j, want)⟩ :: rest) (real σ) := by
  refine qs_intro ?_
  refine ⟨v, .inl ⟨by rw [wanted_real rfl hj hσ, hgt], fun L w hu hs => ?_⟩, by rw [← real_upd] at h; exact h⟩
  rw [run_call_func]
  have := hc L w hs
  rw [← ha] at this
  unfold PureC CallsR at this
  refine Calls.mono (by simpa using this) ?_
  rintro e w' ⟨u, rfl, rfl, hw⟩
  exact ⟨rfl, hi L w w' hs hw⟩
end
end Go.Sv

/-
  Package sieveref18: Read.
-/
set_option linter.unusedSimpArgs false
set_option linter.unusedVariables false
set_option linter.unnecessarySimpa false
namespace Go.Sv
open Go Go.RowKit
/-- two results: a struct that lies in a cell, and a value -/
theorem fp_ct' {P : Program} {n : Nat} {fn : Func} {R : Value → World → Prop} {σ : Env} {w : World} {t1 t2 : Nat} {y1 : TypeId} {ex : Exit} {b1 : Nat} {l : List Value} {zv : Value} {bytes : Nat} {ds : Ctx} (hex : ex = .ret ∨ ex = .normal) (hr : fn.results = #[.cell t1 y1, .tmp t2])
    (ht : (Nat.blt t1 n && Nat.blt t2 n) = true) (hp : σ t1 = .pointer (pb b1)) (o1 : Own w b1 l)
    [h1 : Agg P y1 true] [hi : Inf P y1 zv l.length bytes] (h : R (.tuple #[.agg l.toArray, σ t2]) w) (hd : ds.ds = [] := by rfl) : fpost P n fn R ex ds σ w := by
  simp only [Bool.and_eq_true] at ht
  obtain ⟨ht1, ht2⟩ := ht
  obtain ⟨T1, o1⟩ := o1
  refine fp_of hex hd ?_ h
  have g : (act n ds.ds σ).tmps[t1]?.getD undef = .pointer (pb b1) := by
    have : (act n ds.ds σ).tmps.getD t1 undef = .pointer (pb b1) := by rw [act_getD ht1]; exact hp
    simpa using this
  have g2 : (act n ds.ds σ).tmps[t2]?.getD undef = σ t2 := by
    have : (act n ds.ds σ).tmps.getD t2 undef = σ t2 := by rw [act_getD ht2]
    simpa using this
  obtain ⟨dd, hd1, hd2⟩ := h1.ok
  obtain ⟨i, hi1, hi2, hi3, hi4⟩ := inf_size (P := P) (t := y1)
  have c1 := run_loadVar_row (P := P) w b1 T1 y1 l.toArray (0, 0) dd o1 hd1 (by revert hd2; cases dd <;> exact id) (by rw [hi1]; simp [hi3])
  simp [results, hr, g, g2, asAddr, pb, c1]
end Go.Sv
namespace Go.Proofs.YthgbpgjpnaanlaaGreatDoor
open Go Go.Sv Go.RowKit

/-- what Read answers -/
def Red (w : World) (o : Option Ev) (v : Value) (w' : World) : Prop := match o with
  | some e => ∃ p c, v = .tuple #[.agg ⟨e.cells p c⟩, .bool true] ∧ e.wt ≤ 1048576 ∧ Sep w w' [pRow 2 p e.attrs.length c (e.attrs.flatMap At.cells)]
  | none => ∃ e p c, v = .tuple #[.agg ⟨Ev.cells e p c⟩, .bool false] ∧ Frm w w'
theorem ewB_len {k : Nat} (h : k < 4) : 5 ≤ (ewB k).length ∧ (ewB k).length ≤ 6 := by
  match k, h with
  | 0, _ => decide
  | 1, _ => decide
  | 2, _ => decide
  | 3, _ => decide
theorem evOf_wt (k : Nat) (t : List UInt8) (es : List At) : (evOf k t es).wt = 4 + t.length + (es.map At.wt).sum := by
  unfold evOf Ev.wt
  by_cases h : k = 0
  · simp [h]
  · simp [h]
theorem evOf_cells (k : Nat) (t : List UInt8) (es : List At) (q : Option Addr) (c : Nat) : (evOf k t es).cells q c = [int k, str (if k = 0 then [] else t), str (if k = 0 then t else []), .slice q es.length c] := rfl
def readEnd (k : Nat) (t s : List UInt8) : Option (List At) → Option Ev
  | none => none
  | some es => if evR (evOf k t es) = true ∧ evLine (evOf k t es) = s then some (evOf k t es) else none
set_option maxHeartbeats 8000000 in
theorem refRead18_ok (s : List UInt8) (hb : s.length ≤ 1048576) (w : World) : CallsR Tryz.prog 25 #[str s] w (Red w (refReadR s)) := by
  have hS := Sep.start w
  obtain ⟨R, hR⟩ : ∃ R, refReadR s = R := ⟨_, rfl⟩
  rw [hR]
  refine enter (l := [str s]) Tryz.func25 rfl Tryz.ntmps25 (by kernel_rfl) rfl ?_
  refine sgo ?_
  refine salloc hS fun b2 w1 hS => ?_
  refine sgo ?_
  refine salloc hS fun b4 w2 hS => ?_
  replace hS : Sep w w2 [pOwn b4 evZ, pOwn b2 evZ] := hS
  refine sgo ?_
  refine wlbsn (vs := strs ewL) 4 (fun bw w3 hbw ow hf3 => ?_) (h1 := by intro v hv; obtain ⟨x, _, rfl⟩ := List.mem_map.1 hv; rfl)
  replace hS := hS.push (c := pOwn bw (strs ewL)) hf3 ow (by intro x hx; simp [pOwn] at hx; omega)
  clear ow hf3
  have hl4 : (strs ewL).length = 4 := rfl
  refine sgo ?_
  refine wcloop (X := Nat) (fun i => [(0, str s), (2, ptrAt (pb b2) 0), (4, ptrAt (pb b4) 0), (14, .slice (pb bw) 4 4), (15, int (4 : Nat)), (16, int i)])
    (fun i wr => i ≤ 4 ∧ refF i (ewL.drop i) s = R ∧ Sep w wr [pOwn bw (strs ewL), pOwn b4 evZ, pOwn b2 evZ]) (fun i => 4 - i) 0 ⟨rfl, rfl, rfl, rfl, rfl, rfl, trivial⟩ ⟨Nat.zero_le _, hR, hS⟩ ?_
  clear hS hR
  rintro i wr ρ ⟨hil, hR, hS⟩
  refine sgo ?_
  (show WC _ _ _ _ _ _ _; first | refine WC_dec rfl (fun hc => ?_) (fun hc => ?_) | refine WC_cond rfl (fun hc => ?_) (fun hc => ?_))
  · have hlt : i < 4 := by omega
    clear hc
    have hxw := ewL_at hlt
    have hxv := strs_at hxw
    have hbl := ewB_len hlt
    rw [refF_step hxw, pre_len] at hR
    generalize hx : ewB i = x at *
    refine sgo ?_
    by_cases hp : x.length ≤ s.length ∧ s.take x.length = x
    · rw [if_pos (by simp [hp.1, hp.2])] at hR
      refine wcno ?_ (ht := by
        have : ¬ ((s.length : Int) < x.length) := by omega
        simp [pkb, this, hp.2])
      have hpl := hp.1
      clear hp
      refine sgo ?_
      refine sst_int hS 1 fun w4 hS => ?_
      replace hS : Sep w w4 [pOwn bw (strs ewL), pOwn b4 [int i, str [], str [], .slice none 0 0], pOwn b2 evZ] := hS
      refine sgo ?_
      refine wlpure (take18_ok (s.drop x.length) (by rw [List.length_drop]; omega) _) fun w5 hf5 => ?_
      replace hS := hS.grow hf5
      unfold refBe at hR
      cases hT : tkR (s.drop x.length) with
      | none =>
        rw [hT] at hR
        have hn : R = none := hR.symm
        subst hn
        unfold tkV
        dsimp only
        refine sgo ?_
        refine ssta (vs := [int i, str [], str [], .slice none 0 0]) hS 2 fun w6 hS => ?_
        refine sgo ?_
        refine fp_ct' (.inl rfl) rfl rfl rfl (hS.own 2 rfl) ?_
        exact ⟨⟨i, [], [], []⟩, none, 0, rfl, hS.frm⟩
      | some y =>
        obtain ⟨t, r⟩ := y
        rw [hT] at hR
        obtain ⟨hz1, hz2⟩ := tkR_suf hT
        rw [List.length_drop] at hz1 hz2
        unfold tkV
        dsimp only at hR ⊢
        refine sgo ?_
        refine wcutt (X := Unit) (fun _ => [(0, str s), (2, ptrAt (pb b2) 0), (4, ptrAt (pb b4) 0), (8, str r)]) (fun _ w' => Sep w w' [pOwn bw (strs ewL), pOwn b4 ((evOf i t []).cells none 0), pOwn b2 evZ]) ?_ ?_
        · by_cases h0 : i = 0
          · refine wcyes ?_ (ht := by simp [h0])
            refine sgo ?_
            refine sst_str hS 1 fun w6 hS => ?_
            refine sgo ?_
            refine ⟨(), ⟨rfl, rfl, rfl, rfl, trivial⟩, ?_⟩
            rw [evOf_cells, if_pos h0, if_pos h0]
            exact hS
          · refine wcno ?_ (ht := by simp [h0])
            refine sgo ?_
            refine sst_str hS 1 fun w6 hS => ?_
            refine sgo ?_
            refine ⟨(), ⟨rfl, rfl, rfl, rfl, trivial⟩, ?_⟩
            rw [evOf_cells, if_neg h0, if_neg h0]
            exact hS
        clear hS hT hxw hxv
        rintro _ w6 ρ2 hS
        replace hS : Sep w w6 [pRow 2 none 0 0 [], pOwn b4 ((evOf i t []).cells none 0), pOwn b2 evZ] := (hS.tail).nilRow 2
        have hRE : readEnd i t s (ratsR r []) = R := by
          rw [← hR]
          unfold readEnd
          cases ratsR r [] <;> rfl
        clear hR
        refine sgo ?_
        refine wcloop (X := List UInt8 × List At × Option Addr × Nat) (fun x => [(0, str s), (2, ptrAt (pb b2) 0), (4, ptrAt (pb b4) 0), (8, str x.1)])
          (fun x wr => readEnd i t s (ratsR x.1 x.2.1) = R ∧ 4 + t.length + (x.2.1.map At.wt).sum + x.1.length ≤ s.length ∧ Sep w wr [pRow 2 x.2.2.1 x.2.1.length x.2.2.2 (x.2.1.flatMap At.cells), pOwn b4 ((evOf i t x.2.1).cells x.2.2.1 x.2.2.2), pOwn b2 evZ]) (fun x => x.1.length) (r, [], none, 0) ⟨rfl, rfl, rfl, rfl, trivial⟩ ⟨hRE, by simp; omega, hS⟩ ?_
        clear hS hRE hz1 hz2 hx hbl hpl
        rintro ⟨rest, acc, q, cc⟩ wr3 ρ3 ⟨hR, hwt, hS⟩
        dsimp only at hR hwt hS ⊢
        replace hS : Sep w wr3 [pRow 2 q acc.length cc (acc.flatMap At.cells), pOwn b4 [int i, str (if i = 0 then [] else t), str (if i = 0 then t else []), .slice q acc.length cc], pOwn b2 evZ] := hS
        generalize hN : (if i = 0 then ([] : List UInt8) else t) = nm at *
        generalize hX : (if i = 0 then t else ([] : List UInt8)) = tx at *
        have hev : ∀ es q c, (evOf i t es).cells q c = [int i, str nm, str tx, .slice q es.length c] := fun es q c => by rw [evOf_cells, hN, hX]
        have hal : acc.length ≤ 1048576 := by
          have := sum_len At.wt acc (by intro x _; unfold At.wt; omega)
          omega
        refine sgo ?_
        by_cases hr : rest = []
        · subst hr
          rw [ratsR_nil] at hR
          refine wcno ?_ (ht := by simp)
          refine sgo ?_
          have hwe : (evOf i t acc).wt ≤ 1048576 := by rw [evOf_wt]; simp at hwt; omega
          have hsm := Ev.small_of hwe
          have hck := fun w' h => refEvCheck_ok (evOf i t acc) q cc hsm w' h
          have hln := fun h1 w' h => refEvLine_ok (evOf i t acc) q cc h1 hwe w' h
          rw [hev] at hck hln
          have hat : (evOf i t acc).attrs = acc := rfl
          rw [hat] at hck hln
          unfold readEnd at hR
          dsimp only at hR
          refine wcdraws (fun L w' => Sep w w' (pRow 2 q acc.length cc (acc.flatMap At.cells) :: pOwn b4 [int i, str nm, str tx, .slice q acc.length cc] :: pOwn b2 (bif L 9 then [int i, str nm, str tx, .slice q acc.length cc] else evZ) :: [])) (fun wd hwd => hS.grow hwd) ?_
          refine qs_loada (i := 0) (fun _ => [int i, str nm, str tx, .slice q acc.length cc]) [int i, str nm, str tx, .slice q acc.length cc] ?_ (fun L w h => (h.own 1 rfl).sg) (hv := fun L hu => ⟨rfl, Nat.le_of_ble_eq_true rfl⟩)
          refine qs_loada (i := 0) (fun _ => [int i, str nm, str tx, .slice q acc.length cc]) [int i, str nm, str tx, .slice q acc.length cc] ?_ (fun L w h => (h.own 1 rfl).sg) (hv := fun L hu => ⟨rfl, Nat.le_of_ble_eq_true rfl⟩)
          refine qs_call (v := .bool (evR (evOf i t acc))) (fun L w hu hs => hck w (hs.im 0 rfl)) (fun L w w' h hf => h.grow hf) ?_
          (repeat (first | refine qs_fld ?_ | refine qsp ?_ | refine qs_slc ?_ | refine qs_bin ?_ | refine qs_idx ?_ | refine qs_len ?_ | refine qs_cnv ?_ | refine qs_idxa ?_ | refine qs_nilc ?_ | refine qs_una ?_))
          cases he : evR (evOf i t acc) with
          | false =>
            rw [he, if_neg (by simp)] at hR
            subst hR
            refine qs_gno (.agg ⟨[int i, str nm, str tx, .slice q acc.length cc]⟩) ?_
            refine qs_gno (str []) ?_
            refine qs_gno (str []) ?_
            refine qs_gno (.bool true) ?_
            refine qsp ?_ (hn := rfl)
            refine qs_st (i := 0) (u := .agg ⟨[int i, str nm, str tx, .slice q acc.length cc]⟩) (fun L => bif L 9 then [int i, str nm, str tx, .slice q acc.length cc] else evZ) (fun L w h => h.own 2 rfl) (fun L w w' hu h ho hl => ?_) ?_ (hk := by intro L; cases L 9 <;> rfl)
            · have h2 := h.upd (c' := pOwn b2 [int i, str nm, str tx, .slice q acc.length cc]) 2 rfl (lm_own hl) (by
                have e : ((bif L 9 then [int i, str nm, str tx, .slice q acc.length cc] else evZ).take 0 ++ (Value.agg ⟨[int i, str nm, str tx, .slice q acc.length cc]⟩).cells.toList ++ (bif L 9 then [int i, str nm, str tx, .slice q acc.length cc] else evZ).drop (0 + 4)) = [int i, str nm, str tx, .slice q acc.length cc] := by cases L 9 <;> rfl
                rw [e] at ho
                exact ho)
              exact h2
            (repeat (first | refine qs_fld ?_ | refine qsp ?_ | refine qs_slc ?_ | refine qs_bin ?_ | refine qs_idx ?_ | refine qs_len ?_ | refine qs_cnv ?_ | refine qs_idxa ?_ | refine qs_nilc ?_ | refine qs_una ?_))
            refine qs_nil ?_
            intro L w9 hL hS
            replace hS : Sep w w9 (pRow 2 q acc.length cc (acc.flatMap At.cells) :: pOwn b4 [int i, str nm, str tx, .slice q acc.length cc] :: pOwn b2 (bif L 9 then [int i, str nm, str tx, .slice q acc.length cc] else evZ) :: []) := hS
            rw [hL 9 (by decide), cond_true] at hS
            refine thn_normal ?_
            refine sgo ?_
            refine fp_ct' (.inl rfl) rfl rfl rfl (hS.own 2 rfl) ?_
            exact ⟨evOf i t acc, q, cc, by rw [hev]; rfl, hS.frm⟩
          | true =>
            rw [he] at hR
            refine qs_gyes (v := .agg ⟨[int i, str nm, str tx, .slice q acc.length cc]⟩) ?_ (fun L w hu hs => by
              exact y_loada (i := 0) (l := [int i, str nm, str tx, .slice q acc.length cc]) (p := pb b4) rfl ((hs.own 1 rfl).sg) (show 0 + 4 ≤ [int i, str nm, str tx, .slice q acc.length cc].length from Nat.le_of_ble_eq_true rfl) ⟨_, rfl⟩)
            refine qs_gcall (vals := [.agg ⟨[int i, str nm, str tx, .slice q acc.length cc]⟩]) (v := str (evLine (evOf i t acc))) (fun L w hs => hln he w (hs.im 0 rfl)) ?_ (fun L w w' hs hf => hs.grow hf)
            refine qs_gpure ?_
            refine qs_gpure ?_
            refine qsp ?_ (hn := rfl)
            refine qs_st (i := 0) (u := .agg ⟨[int i, str nm, str tx, .slice q acc.length cc]⟩) (fun L => bif L 9 then [int i, str nm, str tx, .slice q acc.length cc] else evZ) (fun L w h => h.own 2 rfl) (fun L w w' hu h ho hl => ?_) ?_ (hk := by intro L; cases L 9 <;> rfl)
            · have h2 := h.upd (c' := pOwn b2 [int i, str nm, str tx, .slice q acc.length cc]) 2 rfl (lm_own hl) (by
                have e : ((bif L 9 then [int i, str nm, str tx, .slice q acc.length cc] else evZ).take 0 ++ (Value.agg ⟨[int i, str nm, str tx, .slice q acc.length cc]⟩).cells.toList ++ (bif L 9 then [int i, str nm, str tx, .slice q acc.length cc] else evZ).drop (0 + 4)) = [int i, str nm, str tx, .slice q acc.length cc] := by cases L 9 <;> rfl
                rw [e] at ho
                exact ho)
              exact h2
            (repeat (first | refine qs_fld ?_ | refine qsp ?_ | refine qs_slc ?_ | refine qs_bin ?_ | refine qs_idx ?_ | refine qs_len ?_ | refine qs_cnv ?_ | refine qs_idxa ?_ | refine qs_nilc ?_ | refine qs_una ?_))
            refine qs_nil ?_
            intro L w9 hL hS
            replace hS : Sep w w9 (pRow 2 q acc.length cc (acc.flatMap At.cells) :: pOwn b4 [int i, str nm, str tx, .slice q acc.length cc] :: pOwn b2 (bif L 9 then [int i, str nm, str tx, .slice q acc.length cc] else evZ) :: []) := hS
            rw [hL 9 (by decide), cond_true] at hS
            refine thn_normal ?_
            refine sgo ?_
            refine fp_ct' (.inl rfl) rfl rfl rfl (hS.own 2 rfl) ?_
            by_cases hl : evLine (evOf i t acc) = s
            · rw [if_pos ⟨rfl, hl⟩] at hR
              subst hR
              exact ⟨q, cc, by rw [hev]; exact (show (.tuple #[.agg ⟨[int i, str nm, str tx, .slice q acc.length cc]⟩, .bool (pkb true (decide (evLine (evOf i t acc) = s)) false)] : Value) = .tuple #[.agg ⟨[int i, str nm, str tx, .slice q acc.length cc]⟩, .bool true] by rw [decide_eq_true hl]; rfl), hwe, (hS.drop 2 rfl).drop 1 rfl⟩
            · rw [if_neg (by simp [hl])] at hR
              subst hR
              exact ⟨evOf i t acc, q, cc, by rw [hev]; exact (show (.tuple #[.agg ⟨[int i, str nm, str tx, .slice q acc.length cc]⟩, .bool (pkb true (decide (evLine (evOf i t acc) = s)) false)] : Value) = .tuple #[.agg ⟨[int i, str nm, str tx, .slice q acc.length cc]⟩, .bool false] by rw [decide_eq_false hl]; rfl), hS.frm⟩
        cases rest with
        | nil => exact absurd rfl hr
        | cons c0 l0 =>
          have h0 : (c0 :: l0)[0]?.getD 0 = c0 := rfl
          have hpos : 0 < (c0 :: l0).length := by simp
          have hd1 : (c0 :: l0).drop 1 = l0 := rfl
          have hlen : (c0 :: l0).length = l0.length + 1 := rfl
          have hrc := ratR_cons c0 l0
          generalize hrest : c0 :: l0 = rest at *
          refine wcyes ?_ (ht := by simp [hr])
          refine sgo ?_
          simp only [h0]
          rcases Nat.decEq c0.toNat 32 with hc0 | hc0
          · rw [if_neg hc0] at hrc
            rw [ratsR_bad hr hrc] at hR
            have hn : R = none := hR.symm
            subst hn
            refine wcyes ?_ (ht := by simp; omega)
            refine sgo ?_
            refine ssta (vs := [int i, str nm, str tx, .slice q acc.length cc]) hS 2 fun w9 hS => ?_
            refine sgo ?_
            refine fp_ct' (.inl rfl) rfl rfl rfl (hS.own 2 rfl) ?_
            exact ⟨evOf i t acc, q, cc, by rw [hev]; rfl, hS.frm⟩
          rw [if_pos hc0] at hrc
          refine wcno ?_ (ht := by simp [hc0])
          refine sgo ?_
          rw [show rest.drop ((1 : Int).toNat) = l0 from hd1]
          refine wlpure (take18_ok l0 (by omega) _) fun w7 hf7 => ?_
          replace hS := hS.grow hf7
          cases hT : tkR l0 with
          | none =>
            rw [hT] at hrc
            rw [ratsR_bad hr hrc] at hR
            have hn : R = none := hR.symm
            subst hn
            unfold tkV
            dsimp only
            refine sgo ?_
            refine ssta (vs := [int i, str nm, str tx, .slice q acc.length cc]) hS 2 fun w9 hS => ?_
            refine sgo ?_
            refine fp_ct' (.inl rfl) rfl rfl rfl (hS.own 2 rfl) ?_
            exact ⟨evOf i t acc, q, cc, by rw [hev]; rfl, hS.frm⟩
          | some y =>
            obtain ⟨n, r1⟩ := y
            rw [hT] at hrc
            obtain ⟨hz1, hz2⟩ := tkR_suf hT
            unfold tkV
            dsimp only at hrc ⊢
            cases r1 with
            | nil =>
              dsimp only at hrc
              rw [ratsR_bad hr hrc] at hR
              have hn : R = none := hR.symm
              subst hn
              refine sgo ?_
              refine ssta (vs := [int i, str nm, str tx, .slice q acc.length cc]) hS 2 fun w9 hS => ?_
              refine sgo ?_
              refine fp_ct' (.inl rfl) rfl rfl rfl (hS.own 2 rfl) ?_
              exact ⟨evOf i t acc, q, cc, by rw [hev]; rfl, hS.frm⟩
            | cons d r1 =>
              dsimp only at hrc
              have g0 : (d :: r1)[0]?.getD 0 = d := rfl
              have gpos : 0 < (d :: r1).length := by simp
              have gne : ¬ (d :: r1) = [] := by simp
              have gd1 : (d :: r1).drop 1 = r1 := rfl
              have gl : (d :: r1).length = r1.length + 1 := rfl
              generalize d :: r1 = r2 at *
              refine sgo ?_
              simp only [g0]
              rcases Nat.decEq d.toNat 61 with hd61 | hd61
              · rw [if_neg hd61] at hrc
                rw [ratsR_bad hr hrc] at hR
                have hn : R = none := hR.symm
                subst hn
                refine wcyes ?_ (ht := by simp [pkb, gne]; omega)
                refine sgo ?_
                refine ssta (vs := [int i, str nm, str tx, .slice q acc.length cc]) hS 2 fun w9 hS => ?_
                refine sgo ?_
                refine fp_ct' (.inl rfl) rfl rfl rfl (hS.own 2 rfl) ?_
                exact ⟨evOf i t acc, q, cc, by rw [hev]; rfl, hS.frm⟩
              rw [if_pos hd61] at hrc
              refine wcno ?_ (ht := by simp [pkb, gne, hd61])
              refine sgo ?_
              rw [show r2.drop ((1 : Int).toNat) = r1 from gd1]
              refine wlpure (take18_ok r1 (by omega) _) fun w8 hf8 => ?_
              replace hS := hS.grow hf8
              cases hT2 : tkR r1 with
              | none =>
                rw [hT2] at hrc
                rw [ratsR_bad hr hrc] at hR
                have hn : R = none := hR.symm
                subst hn
                unfold tkV
                dsimp only
                refine sgo ?_
                refine ssta (vs := [int i, str nm, str tx, .slice q acc.length cc]) hS 2 fun w9 hS => ?_
                refine sgo ?_
                refine fp_ct' (.inl rfl) rfl rfl rfl (hS.own 2 rfl) ?_
                exact ⟨evOf i t acc, q, cc, by rw [hev]; rfl, hS.frm⟩
              | some y =>
                obtain ⟨v, r3⟩ := y
                rw [hT2] at hrc
                obtain ⟨hz3, hz4⟩ := tkR_suf hT2
                unfold tkV
                dsimp only at hrc ⊢
                rw [ratsR_yes hr hrc] at hR
                refine sgo ?_
                refine wlbuild ?_
                refine sb1a (vs := [str n, str v]) hS fun b9 w9 hS => ?_
                refine sgo ?_
                refine sapp hS 1 (hS.own 0 rfl).sg (fun q' c' w10 hS => ?_) (hl := rfl) (h1 := by simp [Value.oneCell'])
                replace hS : Sep w w10 [pRow 2 q' (acc.length + 1) c' (acc.flatMap At.cells ++ [str n, str v]), pOwn b4 [int i, str nm, str tx, .slice q acc.length cc], pOwn b2 evZ] := hS.drop 0 rfl
                refine sgo ?_
                refine sst_slice hS 1 fun w11 hS => ?_
                have hfl : acc.flatMap At.cells ++ [str n, str v] = (acc ++ [(⟨n, v⟩ : At)]).flatMap At.cells := by rw [List.flatMap_append]; rfl
                have hnl : acc.length + 1 = (acc ++ [(⟨n, v⟩ : At)]).length := by simp
                rw [hfl, hnl] at hS
                refine sgo ?_
                refine ⟨(r3, acc ++ [⟨n, v⟩], q', c'), ⟨rfl, rfl, rfl, rfl, trivial⟩, ⟨hR, ?_, ?_⟩, by dsimp only; omega⟩
                · dsimp only
                  rw [List.map_append, List.sum_append]
                  have h4 : (([(⟨n, v⟩ : At)]).map At.wt).sum = n.length + v.length + 3 := by simp [At.wt]
                  omega
                · dsimp only
                  rw [hev]
                  exact hS
    · rw [if_neg (by rw [Bool.and_eq_true, decide_eq_true_eq, decide_eq_true_eq]; exact hp)] at hR
      refine wcyes ?_ (ht := by
        by_cases h1 : (s.length : Int) < x.length
        · simp [pkb, h1]
        · have : ¬ s.take x.length = x := fun h2 => hp ⟨by omega, h2⟩
          simp [pkb, h1, this])
      refine sgo ?_
      exact ⟨i + 1, ⟨rfl, rfl, rfl, rfl, rfl, rfl, trivial⟩, ⟨by omega, hR, hS⟩, by omega⟩
  · have hio : i = 4 := by omega
    subst hio
    have hn : R = none := hR.symm
    subst hn
    refine sgo ?_
    refine ssta (vs := [int 0, str [], str [], .slice none 0 0]) hS 2 fun w6 hS => ?_
    refine sgo ?_
    refine fp_ct' (.inl rfl) rfl rfl rfl (hS.own 2 rfl) ?_
    exact ⟨⟨0, [], [], []⟩, none, 0, rfl, hS.frm⟩
end Go.Proofs.YthgbpgjpnaanlaaGreatDoor

/-
  Package sieveref18: Parse.
-/
set_option linter.unusedSimpArgs false
set_option linter.unusedVariables false
set_option linter.unnecessarySimpa false
namespace Go.Proofs.YthgbpgjpnaanlaaGreatDoor
open Go Go.Sv Go.RowKit

theorem cut_at10 {l : List UInt8} {i : Nat} (h : ∀ j, j < i → l[j]? ≠ some 10) (hi : i ≤ l.length) (he : i < l.length → l[i]? = some 10) : (cutN l).1 = l.take i ∧ (i = l.length → (cutN l).2.1 = []) ∧ (i < l.length → (cutN l).2.1 = l.drop (i + 1)) := by
  have hno : ∀ y ∈ l.take i, y ≠ (10 : UInt8) := fun y hy e => by
    obtain ⟨j, hj, rfl⟩ := List.mem_iff_getElem.1 hy
    rw [List.length_take] at hj
    rw [List.getElem_take] at e
    exact h j (by omega) (by rw [List.getElem?_eq_getElem (by omega), e])
  rcases Nat.lt_or_ge i l.length with hlt | hge
  · have hg := he hlt
    have e1 := List.drop_eq_getElem_cons hlt
    have e2 : l[i] = 10 := by rw [List.getElem?_eq_getElem hlt] at hg; exact Option.some.inj hg
    rw [e2] at e1
    have hx : Lib.indexByte l 10 = (i : Int) := by
      have := idx_at (c := 10) (r := l.drop (i + 1)) hno
      rw [← e1, List.take_append_drop, List.length_take, Nat.min_eq_left hi] at this
      exact this
    rcases index_cut l with ⟨h1, h2⟩ | ⟨j, hj, h1, h2⟩
    · rw [hx] at h1; omega
    · have : j = i := by rw [hx] at h1; omega
      subst this
      rw [h2]
      exact ⟨rfl, fun h => by omega, fun _ => rfl⟩
  · have hil : i = l.length := by omega
    subst hil
    rw [List.take_length] at hno ⊢
    have hx := idx_none hno
    rcases index_cut l with ⟨h1, h2⟩ | ⟨j, hj, h1, h2⟩
    · rw [h2]
      exact ⟨rfl, fun _ => rfl, fun h => by omega⟩
    · rw [hx] at h1; omega
/-- what Parse answers -/
def prE (s : List UInt8) : List Ev := if (evPR s).2 = 0 then (evPR s).1 else []
def prC (s : List UInt8) : Int := if (evPR s).2 = 0 then 0 else 180
def Prs (s : List UInt8) (w : World) (v : Value) (w' : World) : Prop :=
  ∃ q cc ns, v = .tuple #[.slice q ns.length cc, int (evPR s).2, int (prC s)] ∧ evs ns = prE s ∧ (∀ m ∈ ns, m.e.small) ∧ ns.length ≤ s.length ∧ Sep w w' [pRow 4 q ns.length cc (ns.flatMap EvM.cells), pMany (ns.map EvM.row)]
theorem prs_bad {s : List UInt8} {w w' : World} (h : 0 < (evPR s).2) (hf : Frm w w') : Prs s w (.tuple #[.slice none 0 0, int (evPR s).2, int 180]) w' := by
  have h0 : ¬ (evPR s).2 = 0 := by omega
  refine ⟨none, 0, [], ?_, ?_, by simp, Nat.zero_le _, ((((Sep.start w).grow hf).empty.zero).nilRow 4)⟩
  · unfold prC; rw [if_neg h0]; rfl
  · unfold prE; rw [if_neg h0]; rfl
theorem prs_good {s : List UInt8} {w w' : World} {q : Option Addr} {cc : Nat} {ns : List EvM} (h : (evPR s).2 = 0) (he : evs ns = (evPR s).1) (hs : ∀ m ∈ ns, m.e.small) (hl : ns.length ≤ s.length) (hS : Sep w w' [pRow 4 q ns.length cc (ns.flatMap EvM.cells), pMany (ns.map EvM.row)]) : Prs s w (.tuple #[.slice q ns.length cc, int 0, int 0]) w' := by
  refine ⟨q, cc, ns, ?_, ?_, hs, hl, hS⟩
  · unfold prC; rw [if_pos h, h]; rfl
  · unfold prE; rw [if_pos h]; exact he
theorem evParse2_ok (s : List UInt8) (hb : s.length ≤ 16000000) (HS : ∀ y ∈ linesR s, lineE y) (w : World) (hA : Asc w) (hM : MaxW w) : CallsR Tryz.prog 7 #[str s] w (Prs s w) := by
  refine CallsR.mono (evParse_ok s hb HS w hA hM) ?_
  rintro v w' (⟨h, rfl, hf⟩ | ⟨h, q, cc, ns, rfl, he, hs, hl, hS⟩)
  · exact prs_bad h hf
  · exact prs_good h he hs hl hS
set_option maxHeartbeats 4000000 in
theorem refEvParse_ok (s : List UInt8) (hb : s.length ≤ 1048576) (w : World) : CallsR Tryz.prog 8 #[str s] w (Prs s w) := by
  have hS := Sep.start w
  have hgood := fun w' q cc ns => prs_good (s := s) (w := w) (w' := w') (q := q) (cc := cc) (ns := ns)
  have hbad := fun w' => prs_bad (s := s) (w := w) (w' := w')
  obtain ⟨R, hR⟩ : ∃ R, evPR s = R := ⟨_, rfl⟩
  rw [hR] at hgood hbad
  unfold evPR at hR
  refine enter (l := [str s]) Tryz.func8 rfl Tryz.ntmps8 (by kernel_rfl) rfl ?_
  refine sgo ?_
  refine wcloop (X := Nat × List UInt8 × Option Addr × Nat × List EvM) (fun x => [(0, str x.2.1), (5, .slice x.2.2.1 x.2.2.2.2.length x.2.2.2.1), (6, int x.1)])
    (fun x wr => evPF x.1 (linesR x.2.1) (evs x.2.2.2.2) = R ∧ x.1 + x.2.1.length ≤ s.length + 1 ∧ x.2.2.2.2.length + 1 = x.1 ∧ (∀ m ∈ x.2.2.2.2, m.e.small) ∧
      Sep w wr [pRow 4 x.2.2.1 x.2.2.2.2.length x.2.2.2.1 (x.2.2.2.2.flatMap EvM.cells), pMany (x.2.2.2.2.map EvM.row)])
    (fun x => x.2.1.length) (1, s, none, 0, []) ⟨rfl, rfl, rfl, trivial⟩ ⟨hR, by dsimp only; omega, rfl, by simp, (hS.zero).nilRow 4⟩ ?_
  clear hR hS
  rintro ⟨n, rest, q, cc, ns⟩ wr ρ ⟨hP, hnl, hml, hsm, hS⟩
  dsimp only at hP hnl hml hsm hS ⊢
  refine sgo ?_
  by_cases hr : rest = []
  · subst hr
    refine wcno ?_ (ht := by rfl)
    have hRR : R = (evs ns, 0) := hP.symm
    subst hRR
    refine sgo ?_
    (first | refine fp1 (.inl rfl) rfl rfl ?_ | refine fp2 (.inl rfl) rfl rfl rfl ?_ | refine fp3 (.inl rfl) rfl rfl rfl rfl ?_ | refine fp0 (.inr rfl) rfl ?_ | refine fp0 (.inl rfl) rfl ?_ | refine fp1 (.inr rfl) rfl rfl ?_)
    exact hgood _ _ _ _ rfl rfl hsm (by simp at hnl; omega) hS
  · refine wcyes ?_ (ht := by simp [hr])
    have hlc := lines_cut hr
    refine sgo ?_
    refine wcloop (X := Nat) (fun i => [(0, str rest), (5, .slice q ns.length cc), (6, int n), (7, int i)])
      (fun i wr => i ≤ rest.length ∧ (∀ j, j < i → rest[j]? ≠ some 10) ∧ Sep w wr [pRow 4 q ns.length cc (ns.flatMap EvM.cells), pMany (ns.map EvM.row)]) (fun i => rest.length - i) 0 ⟨rfl, rfl, rfl, rfl, trivial⟩ ⟨Nat.zero_le _, fun j hj => absurd hj (Nat.not_lt_zero j), hS⟩ ?_
    clear hS
    rintro i wr2 ρ2 ⟨hil, hno, hS⟩
    refine sgo ?_
    by_cases hgo : i < rest.length ∧ rest[i]? ≠ some 10
    · obtain ⟨hlt, hne⟩ := hgo
      obtain ⟨c, hx⟩ : ∃ c, rest[i]? = some c := ⟨_, List.getElem?_eq_getElem hlt⟩
      have hc10 : ¬ c.toNat = 10 := fun e => hne (by rw [hx, show c = 10 from UInt8.toNat_inj.1 e])
      refine wcyes ?_ (ht := by
        have h1 : (i : Int) < rest.length := by omega
        have h2 : ¬ (c.toNat : Int) = 10 := by omega
        simp [pkb, h1, hx, h2])
      refine sgo ?_
      refine ⟨i + 1, ⟨rfl, rfl, rfl, rfl, trivial⟩, ⟨hlt, fun j hj => ?_, hS⟩, by omega⟩
      rcases Nat.lt_or_ge j i with h | h
      · exact hno j h
      · have : j = i := by omega
        subst this
        exact hne
    · have he : i < rest.length → rest[i]? = some 10 := fun h => Classical.byContradiction fun h2 => hgo ⟨h, h2⟩
      obtain ⟨k1, k2, k3⟩ := cut_at10 hno hil he
      refine wcno ?_ (ht := by
        by_cases h1 : i < rest.length
        · have := he h1
          simp [pkb, this]
        · have : ¬ (i : Int) < rest.length := by omega
          simp [pkb, this])
      rw [hlc, k1] at hP
      have hcl := cutT_no rest
      rw [k1] at hcl
      refine sgo ?_
      refine wlcall (refRead18_ok (rest.take i) (by rw [List.length_take]; omega) _) ?_
      rw [refRead_eq hcl]
      cases hT : evRead (rest.take i) with
      | none =>
        rintro _ w2 ⟨e, p, c, rfl, hf2⟩
        have hRR : R = ([], n) := by
          rw [← hP, evPF, hT]
        subst hRR
        replace hS := hS.grow hf2
        refine sgo ?_
        refine salloc hS fun b8 w5 hS => ?_
        refine sgo ?_
        refine ssta (vs := e.cells p c) hS 0 fun w6 hS => ?_
        refine sgo ?_
        (first | refine fp1 (.inl rfl) rfl rfl ?_ | refine fp2 (.inl rfl) rfl rfl rfl ?_ | refine fp3 (.inl rfl) rfl rfl rfl rfl ?_ | refine fp0 (.inr rfl) rfl ?_ | refine fp0 (.inl rfl) rfl ?_ | refine fp1 (.inr rfl) rfl rfl ?_)
        exact hbad _ (by dsimp only; omega) hS.frm
      | some e =>
        rintro _ w2 ⟨p, c, rfl, hwt, hS2⟩
        rw [evPF, hT] at hP
        dsimp only at hP
        have hse := Ev.small_of hwt
        replace hS := hS.seq hS2
        clear hS2 hT
        refine sgo ?_
        refine salloc hS fun b8 w5 hS => ?_
        refine sgo ?_
        refine ssta (vs := e.cells p c) hS 0 fun w6 hS => ?_
        replace hS : Sep w w6 [pOwn b8 [int e.kind, str e.name, str e.text, .slice p e.attrs.length c], pRow 2 p e.attrs.length c (e.attrs.flatMap At.cells), pRow 4 q ns.length cc (ns.flatMap EvM.cells), pMany (ns.map EvM.row)] := hS
        refine sgo ?_
        refine sb1a (vs := [int e.kind, str e.name, str e.text, .slice p e.attrs.length c]) hS fun b9 w7 hS => ?_
        refine sgo ?_
        refine sapp hS 3 (hS.own 0 rfl).sg (fun q' c' w8 hS => ?_) (hl := rfl) (h1 := ev_one e p c)
        replace hS : Sep w w8 [pOwn b9 [int e.kind, str e.name, str e.text, .slice p e.attrs.length c], pOwn b8 [int e.kind, str e.name, str e.text, .slice p e.attrs.length c], pRow 2 p e.attrs.length c (e.attrs.flatMap At.cells), pRow 4 q' (ns.length + 1) c' (ns.flatMap EvM.cells ++ (EvM.mk e p c).cells), pMany (ns.map EvM.row)] := hS
        have hS3 := (((hS.tail.tail).front 2 rfl).front 1 rfl).more
        have hnl2 : ns.length + 1 = (ns ++ [(⟨e, p, c⟩ : EvM)]).length := by rw [List.length_append]; rfl
        have hS4 : Sep w w8 [pRow 4 q' (ns ++ [(⟨e, p, c⟩ : EvM)]).length c' ((ns ++ [(⟨e, p, c⟩ : EvM)]).flatMap EvM.cells), pMany ((ns ++ [(⟨e, p, c⟩ : EvM)]).map EvM.row)] := by
          rw [← hnl2, ← evs_flat, List.map_append]
          exact hS3.front 1 rfl
        clear hS hS3
        have hsm2 : ∀ m ∈ ns ++ [(⟨e, p, c⟩ : EvM)], m.e.small := fun m hm => by
          rcases List.mem_append.1 hm with hm | hm
          · exact hsm m hm
          · rw [List.mem_singleton.1 hm]; exact hse
        rw [show evs ns ++ [e] = evs (ns ++ [(⟨e, p, c⟩ : EvM)]) from (evs_snoc ns ⟨e, p, c⟩).symm] at hP
        rw [hnl2]
        have hml2 : (ns ++ [(⟨e, p, c⟩ : EvM)]).length = n := by rw [← hnl2]; omega
        generalize ns ++ [(⟨e, p, c⟩ : EvM)] = ns2 at *
        refine sgo ?_
        rcases Nat.lt_or_ge i rest.length with hlt | hge
        · refine wcno ?_ (ht := by simp; omega)
          rw [k3 hlt] at hP
          refine sgo ?_
          rw [show ((i : Int) + 1).toNat = i + 1 from by omega]
          refine ⟨(n + 1, rest.drop (i + 1), q', c', ns2), ⟨rfl, rfl, rfl, trivial⟩, ⟨hP, by dsimp only; rw [List.length_drop]; omega, by dsimp only; omega, hsm2, hS4⟩, by dsimp only; rw [List.length_drop]; omega⟩
        · have hio : i = rest.length := by omega
          refine wcyes ?_ (ht := by simp; omega)
          rw [k2 hio] at hP
          have hRR : R = (evs ns2, 0) := hP.symm
          subst hRR
          refine sgo ?_
          (first | refine fp1 (.inl rfl) rfl rfl ?_ | refine fp2 (.inl rfl) rfl rfl rfl ?_ | refine fp3 (.inl rfl) rfl rfl rfl rfl ?_ | refine fp0 (.inr rfl) rfl ?_ | refine fp0 (.inl rfl) rfl ?_ | refine fp1 (.inr rfl) rfl rfl ?_)
          exact hgood _ _ _ _ rfl rfl hsm2 (by have : 0 < rest.length := List.length_pos_iff.2 hr; omega) hS4
end Go.Proofs.YthgbpgjpnaanlaaGreatDoor

/-
  The law EventLines.
-/
set_option linter.unusedSimpArgs false
set_option linter.unusedVariables false
set_option linter.unnecessarySimpa false
namespace Go.Proofs.YthgbpgjpnaanlaaGreatDoor
open Go Go.Sv Go.RowKit

theorem words_len3 {k : Nat} {x : List UInt8} (h : wordsL[k]? = some x) : 3 ≤ x.length := by
  have hk : k < 5 := (List.getElem?_eq_some_iff.1 h).1
  match k, hk with
  | 0, _ => obtain rfl : wText = x := Option.some.inj h; decide
  | 1, _ => obtain rfl : wStart = x := Option.some.inj h; decide
  | 2, _ => obtain rfl : wEnd = x := Option.some.inj h; decide
  | 3, _ => obtain rfl : wComment = x := Option.some.inj h; decide
  | 4, _ => obtain rfl : wDoctype = x := Option.some.inj h; decide
theorem lineS_of_len3 {s : List UInt8} (hb : s.length ≤ 1048579) : lineS s := by
  intro k x nm tx r0 es r hx hp hh ha
  obtain ⟨h1, h2, h3⟩ := head_suf hh
  have h5 := words_len3 hx
  have hl : (s.drop x.length).length ≤ 1048576 := by rw [List.length_drop]; omega
  obtain ⟨_, _, hel⟩ := atsR_suf _ r0 [] es r (Nat.le_refl _) ha
  simp only [List.length_nil] at hel
  exact ⟨by omega, by omega, by omega, ats_small _ r0 [] es r (Nat.le_refl _) (by omega) (by simp) ha⟩
theorem ew0_len4 {k : Nat} (h : k < 4) : 4 ≤ (ew0 k).length := by
  match k, h with
  | 0, _ => decide
  | 1, _ => decide
  | 2, _ => decide
  | 3, _ => decide
theorem lineE_of_len {y : List UInt8} (hb : y.length ≤ 1048576) (hno : ∀ c ∈ y, c.toNat ≠ 10) : lineE y := by
  intro k hk hw z hz
  have h1 := ew1_len k
  have h4 := ew0_len4 hk
  have hc := cutB_eq y
  have hl : (cutB y).2.length ≤ 1048571 := by
    rcases hc with h | ⟨_, h⟩
    · have := congrArg List.length h
      rw [← hw] at this
      simp only [List.length_append, List.length_cons] at this
      omega
    · rw [h]; simp
  have := lines_size z hz
  simp only [List.length_append, List.length_cons] at this
  exact lineS_of_len3 (by omega)
theorem lines_no {s : List UInt8} : ∀ y ∈ linesR s, ∀ c ∈ y, c.toNat ≠ 10 := by
  have key : ∀ (n : Nat) (l : List UInt8), l.length ≤ n → ∀ y ∈ linesR l, ∀ c ∈ y, c.toNat ≠ 10 := by
    intro n
    induction n with
    | zero =>
      intro l hn y hy
      rw [List.eq_nil_of_length_eq_zero (by omega : l.length = 0)] at hy
      cases hy
    | succ n ih =>
      intro l hn y hy
      by_cases h : l = []
      · subst h; cases hy
      · rw [lines_cut h] at hy
        have h1 := (cutT_len l).2.2 h
        rcases List.mem_cons.1 hy with rfl | hy
        · exact cutT_no l
        · exact ih (cutN l).2.1 (by omega) y hy
  exact key s.length s (Nat.le_refl _)
set_option maxHeartbeats 4000000 in
theorem eventLines_ok (ms : List EvM) (p : Option Addr) (c : Nat) (s : List UInt8) (hw : evw ms ≤ 1048576) (hb : s.length ≤ 1048576) (w : World) (hA : Asc w) (hM : MaxW w) (hE : Evs w p ms) :
    PureC Tryz.prog 3 #[.slice p ms.length c, str s] w (.bool true) := by
  have hs : ∀ m ∈ ms, m.e.small := fun m hm => Ev.small_of (Nat.le_trans (sum_mem (fun m : EvM => m.e.wt) ms hm) hw)
  have HS : ∀ y ∈ linesR s, lineE y := fun y hy => lineE_of_len (Nat.le_trans (lines_size y hy) hb) (lines_no y hy)
  refine enter (l := [.slice p ms.length c, str s]) Tryz.func3 rfl Tryz.ntmps3 (by kernel_rfl) rfl ?_
  refine sgo ?_
  refine wlpure (evPrint_ok ms p c (by omega) hs w hA hE) fun w1 hf1 => ?_
  have hrp := refEvPrint_ok ms p c hw w1 (hE.frm hf1)
  obtain ⟨B, hB⟩ : ∃ B, (evs ms).all evR = B := ⟨_, rfl⟩
  rw [hB] at hrp ⊢
  clear hB
  have hpv : ∃ S C, (if B = true then (.tuple #[str (evLns (evs ms)), int 0] : Value) else .tuple #[str [], int 180]) = .tuple #[str S, int C] ∧ (if B = true then (.tuple #[str (evLns (evs ms)), .bool true] : Value) else .tuple #[str [], .bool false]) = .tuple #[str S, .bool B] ∧ C = if B then 0 else 180 := by
    cases B
    · exact ⟨_, _, rfl, rfl, rfl⟩
    · exact ⟨_, _, rfl, rfl, rfl⟩
  obtain ⟨S, C, e1, e2, hC⟩ := hpv
  rw [e1]
  rw [e2] at hrp
  clear e1 e2
  refine sgo ?_
  refine wlpure hrp fun w2 hf2 => ?_
  clear hrp
  have hf := hf1.trans hf2
  clear hf1 hf2
  have hSS : decide (S ≠ S) = false := by simp
  refine sgo ?_
  refine wlcallgp (vals := [int C]) (fun _ => num18_ok C _) fun w3 hf3 => ?_
  replace hf := hf.trans hf3
  clear hf3
  refine sgo ?_
  refine wlcallgp (vals := [int C]) (fun _ => num18_ok C _) fun w4 hf4 => ?_
  replace hf := hf.trans hf4
  clear hf4
  refine sgo ?_
  refine wcno ?_ (ht := by cases B <;> simp [pkb, hC])
  clear hSS hC
  refine sgo ?_
  refine wlcall (evParse2_ok s (by omega) HS _ (hA.frm hf) (hM.frm hf)) ?_
  rintro _ w4 ⟨q1, c1, n1, rfl, v1, s1, l1, hS1⟩
  have hS := ((Sep.start w).grow hf).seq hS1
  clear hS1 hf
  refine sgo ?_
  refine wlcall (evParse2_ok s (by omega) HS _ (hA.frm hS.frm) (hM.frm hS.frm)) ?_
  rintro _ w5 ⟨q2, c2, n2, rfl, v2, s2, l2, hS2⟩
  replace hS := hS.seq hS2
  clear hS2 HS
  refine sgo ?_
  refine wlcall (refEvParse_ok s hb _) ?_
  rintro _ w6 ⟨q3, c3, n3, rfl, v3, s3, l3, hS3⟩
  replace hS := hS.seq hS3
  replace hS : Sep w w6 [pRow 4 q3 n3.length c3 (n3.flatMap EvM.cells), pMany (n3.map EvM.row), pRow 4 q2 n2.length c2 (n2.flatMap EvM.cells), pMany (n2.map EvM.row), pRow 4 q1 n1.length c1 (n1.flatMap EvM.cells), pMany (n1.map EvM.row)] := hS
  clear hS3
  have hd1 : decide (evs n1 = evs n3) = true := decide_eq_true (by rw [v1, v3])
  have hd2 : decide (evs n2 = evs n3) = true := decide_eq_true (by rw [v2, v3])
  generalize (evPR s).2 = N at *
  generalize prC s = PC at *
  refine sgo ?_
  refine wlcallgp (vals := [int PC]) (fun _ => num18_ok PC _) fun w7 hf7 => ?_
  replace hS := hS.grow hf7
  refine sgo ?_
  refine wlcallgp (vals := [.slice q1 n1.length c1, .slice q3 n3.length c3]) (fun _ => evEqual_ok n1 n3 q1 q3 c1 c3 (by omega) (by omega) s1 s3 _ (Sep.evs hS 4 5 rfl rfl) (Sep.evs hS 0 1 rfl rfl)) fun w8 hf8 => ?_
  replace hS := hS.grow hf8
  rw [hd1]
  refine sgo ?_
  refine wcno ?_ (ht := by simp [pkb])
  refine sgo ?_
  have hS5 := (hS.front 5 rfl).front 5 rfl
  refine wlcall (evSpoil_ok n1 q1 c1 (by omega) s1 w _ _ hS5) ?_
  rintro _ w9 hS6
  replace hS : Sep w w9 [pRow 4 q3 n3.length c3 (n3.flatMap EvM.cells), pMany (n3.map EvM.row), pRow 4 q2 n2.length c2 (n2.flatMap EvM.cells), pMany (n2.map EvM.row)] := hS6
  clear hS5 hS6
  refine sgo ?_
  refine wlpure (evEqual_ok n2 n3 q2 q3 c2 c3 (by omega) (by omega) s2 s3 _ (Sep.evs hS 2 3 rfl rfl) (Sep.evs hS 0 1 rfl rfl)) fun w10 hf10 => ?_
  replace hS := hS.grow hf10
  rw [hd2]
  refine sgo ?_
  refine wlcallgp (vals := []) (fun _ => awake18_ok _ (hA.frm hS.frm)) (fun w11 hf11 => ?_) (ha := fun _ => rfl)
  replace hS := hS.grow hf11
  refine sgo ?_
  (first | refine fp1 (.inl rfl) rfl rfl ?_ | refine fp2 (.inl rfl) rfl rfl rfl ?_ | refine fp3 (.inl rfl) rfl rfl rfl rfl ?_ | refine fp0 (.inr rfl) rfl ?_ | refine fp0 (.inl rfl) rfl ?_ | refine fp1 (.inr rfl) rfl rfl ?_); refine ⟨?_, by (first | exact Frm.refl _ | assumption | exact Go.Sv.Sep.frm (by assumption) | (refine Frm.trans ?_ (by assumption); first | exact Frm.refl _ | assumption))⟩; (try simp only [realB, rv_true, Nat.reduceBEq, cond_true, cond_false, entG, real_lif, updGL])
  rfl
end Go.Proofs.YthgbpgjpnaanlaaGreatDoor

/-
  From a frame to what a row asks behind the call: nothing that was there has turned (new blocks may be frozen).
-/
set_option linter.unusedSimpArgs false
set_option linter.unusedVariables false
set_option linter.unnecessarySimpa false
namespace Go.ChangeShapes
section
variable {H : Type} {enc : TypeId × Value → H} {P : Program}
theorem post_frm {f : Func} {s : ChangeSpec} {apart fresh handsOn again : Bool} {W W' : World} {args : Array Value} {v : Value} {ds gs : List (DataW H)} {before pa pv : List MemPlace}
    (hW : DataW.Whole enc P f.params.toList s.vars apart W args.toList ds gs before)
    (hres : ∀ (b : Nat) (sp : Nat → Bool) (hd : Bool), DataW.TrodAll enc P W' b sp hd f.resultTypes.toList (v.resultList f.resultTypes.size) (s.fn H (ds ++ gs)).results [])
    (hargs : ∀ sp : Nat → Bool, (∀ p ∈ before, sp p.block = true) → DataW.TrodAll enc P W' 0 sp true f.params.toList args.toList (s.fn H (ds ++ gs)).args pa)
    (hvars : ∀ sp : Nat → Bool, (∀ p ∈ before, sp p.block = true) → DataW.TrodVars enc P W' sp s.vars (s.fn H (ds ++ gs)).vars pv)
    (hps : before = pa ++ pv) (hk : Sv.Frm W W')
    (hok : ∀ (j : Nat) (t : TypeId) (r : Value), f.resultTypes[j]? = some t → (v.resultList f.resultTypes.size)[j]? = some r → Value.okWide P W' .any 0 t r) :
    s.post enc P f apart fresh handsOn again W args v W' := by
  have hold : ∀ p ∈ before, (fun b => decide (b < W.heap.size)) p.block = true := fun p hp => by simpa using hW.lt p hp
  refine ⟨ds, gs, before, [], pa, pv, hW, hres _ _ _, hargs _ hold, hvars _ hold, World.keptBut_mono (fun p hp => ⟨hp, ?_⟩) (RowKit.Below.frame hk (· ∈ before)), fun _ => ?_⟩
  · rw [hps, List.mem_append] at hp
    exact Or.inr hp
  · have hlt := hW.lt
    obtain ⟨_, _, _, _, _, hz, hn⟩ := hW
    refine ⟨hok, _, _, ([] ++ pa) ++ pv, ⟨[] ++ pa, pv, trodAll_append (hargs _ (fun _ _ => rfl)) (hres _ _ _), hvars _ (fun _ _ => rfl), rfl, ?_, ?_⟩, ?_⟩
    · intro b off hp
      have hp' : (.cell b off : MemPlace) ∈ before := by rw [hps]; simpa using hp
      rw [RowKit.Below.frozen hk (hlt _ hp')]
      exact hz b off hp'
    · intro ha
      have := hn ha
      rw [hps] at this
      simpa using this
    · intro p hp _
      rw [hps]
      simpa using hp
end
end Go.ChangeShapes

/-
  From a reading of the arguments to what lies in memory; and back: a law leaves the arguments as they were.
-/
set_option linter.unusedSimpArgs false
set_option linter.unusedVariables false
set_option linter.unnecessarySimpa false
namespace Go.Sv
open Go Go.RowKit Go.ChangeShapes Go.WideShapes
theorem cell_lt {w : World} {a : Addr} {v : Value} (h : w.cell? a = some v) : a.block < w.heap.size := by
  rcases Nat.lt_or_ge a.block w.heap.size with h1 | h1
  · exact h1
  · have : w.heap[a.block]? = none := Array.getElem?_eq_none h1
    simp [World.cell?, this] at h
theorem seg_app {w : World} {a : Addr} {l l' : List Value} (h : seg w a l) (h' : seg w (a.add l.length) l') : seg w a (l ++ l') := by
  intro i hi
  rcases Nat.lt_or_ge i l.length with h1 | h1
  · rw [h i h1, List.getElem?_append_left h1]
  · have := h' (i - l.length) (by simp at hi; omega)
    rw [add_add, show l.length + (i - l.length) = i by omega] at this
    rw [this, List.getElem?_append_right h1]
theorem seg_range {w : World} {a : Addr} {k : Nat} (f : Nat → List Value) : ∀ n : Nat, (∀ i, i < n → (f i).length = k ∧ seg w (a.add (i * k)) (f i)) → seg w a ((List.range n).flatMap f) ∧ ((List.range n).flatMap f).length = n * k
  | 0, _ => ⟨fun i hi => by simp at hi, by simp⟩
  | n + 1, h => by
    obtain ⟨h1, h2⟩ := seg_range f n fun i hi => h i (by omega)
    obtain ⟨h3, h4⟩ := h n (by omega)
    rw [List.range_succ, List.flatMap_append]
    simp only [List.flatMap_cons, List.flatMap_nil, List.append_nil]
    refine ⟨seg_app h1 (by rw [h2]; exact h4), ?_⟩
    rw [List.length_append, h2, h3, Nat.succ_mul]
/-- a law's ending: it answered true, and left all as it was -/
theorem trodAll_frm {H : Type} {enc : TypeId × Value → H} {P : Program} (hl : laidOutB P = true) {W W' : World} (hf : Sv.Frm W W') {sp : Nat → Bool} : ∀ {ts : List TypeId} {vs : List Value} {ds : List (DataW H)} {ps : List MemPlace},
    (∀ t ∈ ts, P.readableRec t = true ∧ t < P.types.size) → DataW.TrodAll enc P W 0 (fun _ => true) true ts vs ds ps → (∀ p ∈ ps, p.block < W.heap.size) → (∀ p ∈ ps, sp p.block = true) → DataW.TrodAll enc P W' 0 sp true ts vs ds ps
  | [], [], [], _, _, h, _, _ => h
  | t :: ts, v :: vs, d :: ds, _, ht, ⟨p, q, h1, h2, e⟩, hlt, hs => by
    subst e
    refine ⟨p, q, ?_, ?_, rfl⟩
    · obtain ⟨hr, hrow⟩ := ht t List.mem_cons_self
      exact WideElems.Trod_stays hl hr hrow h1 (fun x hx => RowKit.Below.same hf (hlt x (List.mem_append_left _ hx))) fun x hx => hs x (List.mem_append_left _ hx)
    · exact trodAll_frm hl hf (fun t ht' => ht t (List.mem_cons_of_mem _ ht')) h2 (fun x hx => hlt x (List.mem_append_right _ hx)) fun x hx => hs x (List.mem_append_right _ hx)
theorem law_ends {H : Type} {enc : TypeId × Value → H} {P : Program} {f : Func} {s : ChangeSpec} {W W' : World} {args : Array Value} {ds gs : List (DataW H)} {before : List MemPlace} {tb : TypeId}
    (hl : laidOutB P = true) (hT : ∀ t ∈ f.params.toList, P.readableRec t = true ∧ t < P.types.size) (hv : s.vars = []) (hrt : f.resultTypes = #[tb]) (hb : P.underlying tb = some .bool)
    (hW : DataW.Whole enc P f.params.toList s.vars false W args.toList ds gs before) (hfn : s.fn H (ds ++ gs) = { results := [.lit (.bool true)], args := ds ++ gs }) (hg : Frm W W') :
    s.post enc P f false true false false W args (.bool true) W' := by
  have hW' := hW
  have hlt := hW.lt
  obtain ⟨p, q, hA, hV, rfl, _, _⟩ := hW
  rw [hv] at hV
  obtain ⟨rfl, rfl⟩ := trodVars_none hV
  have hrl : (Value.bool true).resultList f.resultTypes.size = [.bool true] := by rw [hrt]; rfl
  simp only [List.append_nil] at hlt hfn
  refine post_frm (pa := p) (pv := []) hW' (fun _ _ _ => ?_) (fun sp hsp => ?_) (fun _ _ => ?_) rfl hg (ok_one hrt rfl (okWide_bool_mk hb _))
  · rw [hrt]
    simp only [List.append_nil, hfn]
    exact trodAll_cons_mk (shut_bool hb _) trodAll_mk0
  · simp only [List.append_nil, hfn]
    exact trodAll_frm hl hg hT hA hlt (fun x hx => hsp x (by simpa using hx))
  · simp only [List.append_nil, hfn, hv]
    rfl
end Go.Sv
namespace Go.Proofs.YthgbpgjpnaanlaaGreatDoor
open Go Go.Sv Go.RowKit Go.ChangeShapes Go.WideShapes Go.Deep

theorem laidOut : laidOutB Tryz.prog = true := by kernel_rfl
theorem own : ownKnob Tryz.prog.godebug = none := by kernel_rfl

section
variable {H : Type} {P : Program} {enc : TypeId × Value → H} {w : World} {base : Nat} {spare : Nat → Bool} {held : Bool}
theorem bulkAll_eq : ∀ l : List (DataW H), Rows.uptoBulkAll l = (l.map Rows.uptoBulk).sum
  | [] => by simp [Rows.uptoBulkAll]
  | d :: l => by simp only [Rows.uptoBulkAll, List.map_cons, List.sum_cons, bulkAll_eq l]
theorem bulk_slice (es rs : List (DataW H)) : Rows.uptoBulk (.slice es rs) = (es.map Rows.uptoBulk).sum + (rs.map Rows.uptoBulk).sum + 1 := by simp only [Rows.uptoBulk, bulkAll_eq]
theorem bulk_agg (es : List (DataW H)) : Rows.uptoBulk (.agg es) = (es.map Rows.uptoBulk).sum + 1 := by simp only [Rows.uptoBulk, bulkAll_eq]
theorem bulk_nil : Rows.uptoBulk (.nil : DataW H) = 1 := by simp only [Rows.uptoBulk]
theorem bulk_str (l : List UInt8) : Rows.uptoBulk (.lit (.string l) : DataW H) = l.length + 1 := by simp only [Rows.uptoBulk]
theorem bulk_int (k : IntKind) (n : Int) : Rows.uptoBulk (.lit (.int k n) : DataW H) = 1 := by simp only [Rows.uptoBulk]
/-- a slice of records: what they are, where they lie, and what they hold together -/
theorem open_recs {t e : TypeId} {fuel : Nat} {cs : List Value} {x : DataW H × List MemPlace} {α : Type} (cells : α → List Value) (wt : α → Nat) (Q : α → Prop) (ht : P.underlying t = some (.slice e))
    (h : DataW.trod enc P w base spare held fuel t cs = some x)
    (hrec : ∀ k cs' y, cs'.length = P.cellsOf e → DataW.trod enc P w base spare held k e cs' = some y → ∃ r, cs' = cells r ∧ Q r ∧ wt r ≤ Rows.uptoBulk y.1) :
    ∃ (p : Option Addr) (c : Nat) (rs : List α), cs = [.slice p rs.length c] ∧ rs.length ≤ c ∧ c ≤ maxLen ∧ Im [] w p (rs.flatMap cells) ∧ (∀ r ∈ rs, Q r) ∧ (rs.map wt).sum + 1 ≤ Rows.uptoBulk x.1 := by
  rcases open_slice ht h with ⟨rfl, rfl⟩ | ⟨a, len, cap, m, n, D, Pl, rfl, _, hl, hm, hmm, rfl, hi⟩
  · exact ⟨none, 0, [], rfl, Nat.le_refl _, Nat.zero_le _, .inl rfl, by simp, by simp [bulk_nil]⟩
  · have hlm : len ≤ m := by rw [hmm]; split <;> omega
    have key : ∀ n : Nat, n ≤ len → ∃ rs : List α, rs.length = n ∧ rs.flatMap cells = (List.range n).flatMap (fun i => (w.cells? base (a.add (i * P.cellsOf e)) (P.cellsOf e)).getD []) ∧ (∀ r ∈ rs, Q r) ∧ (rs.map wt).sum ≤ ((List.range n).map fun i => Rows.uptoBulk (D i)).sum := by
      intro n
      induction n with
      | zero => intro _; exact ⟨[], rfl, rfl, by simp, by simp⟩
      | succ n ih =>
        intro hn
        obtain ⟨rs, h1, h2, h3, h4⟩ := ih (by omega)
        obtain ⟨cs', h5, h6⟩ := hi n (by omega)
        obtain ⟨_, hcl, _⟩ := World.cells?_some h5
        obtain ⟨r, h7, h8, h9⟩ := hrec _ _ _ hcl h6
        refine ⟨rs ++ [r], by simp [h1], ?_, ?_, ?_⟩
        · rw [List.range_succ, List.flatMap_append, List.flatMap_append, h2]
          simp [h5, h7]
        · intro x hx
          rcases List.mem_append.1 hx with hx | hx
          · exact h3 x hx
          · rw [List.mem_singleton.1 hx]; exact h8
        · rw [List.range_succ, List.map_append, List.map_append, List.sum_append, List.sum_append]
          simp only [List.map_cons, List.map_nil, List.sum_cons, List.sum_nil]
          dsimp only at h9
          omega
    obtain ⟨rs, h1, h2, h3, h4⟩ := key len (Nat.le_refl _)
    refine ⟨some a, cap, rs, by rw [h1], by omega, hm, ?_, h3, ?_⟩
    · rw [h2]
      have hsr := seg_range (w := w) (a := a) (k := P.cellsOf e) (fun i => (w.cells? base (a.add (i * P.cellsOf e)) (P.cellsOf e)).getD []) len (fun i hil => by
        obtain ⟨cs', h5, _⟩ := hi i (by omega)
        obtain ⟨_, hcl, hat⟩ := World.cells?_some h5
        rw [h5]
        exact ⟨hcl, fun j hj => hat j (by simpa [hcl] using hj)⟩)
      generalize (List.range len).flatMap (fun i => (w.cells? base (a.add (i * P.cellsOf e)) (P.cellsOf e)).getD []) = L at *
      cases L with
      | nil => exact .inl rfl
      | cons v L =>
        refine .inr ⟨a, rfl, hsr.1, ?_, by simp⟩
        have := hsr.1 0 (by simp)
        have h0 : w.cell? (a.add 0) = some v := this
        have := cell_lt h0
        rwa [add_block] at this
    · rw [bulk_slice, List.map_map]
      have : ((List.range len).map (Rows.uptoBulk ∘ D)).sum = ((List.range len).map fun i => Rows.uptoBulk (D i)).sum := rfl
      omega
theorem str_of (s : ByteArray) : Value.string s = str s.data.toList := by cases s; rfl
/-- a cell that is a text -/
theorem open_strc {t : TypeId} {fuel : Nat} {cs : List Value} {x : DataW H × List MemPlace} (ht : P.underlying t = some .string) (h : DataW.trod enc P w base spare held fuel t cs = some x) : ∃ l : List UInt8, cs = [str l] ∧ Rows.uptoBulk x.1 = l.length + 1 := by
  obtain ⟨s, rfl, rfl, _⟩ := DataW.trod_string ht h
  exact ⟨s.data.toList, by rw [str_of], bulk_str _⟩
theorem open_intc {t : TypeId} {k : IntKind} {fuel : Nat} {cs : List Value} {x : DataW H × List MemPlace} (ht : P.underlying t = some (.int k)) (h : DataW.trod enc P w base spare held fuel t cs = some x) : ∃ n : Int, cs = [.int k n] ∧ k.min ≤ n ∧ n ≤ k.max ∧ Rows.uptoBulk x.1 = 1 := by
  obtain ⟨n, rfl, rfl, hw⟩ := DataW.trod_int ht h
  simp only [Lit.wf, IntKind.has, Bool.and_eq_true, decide_eq_true_eq] at hw
  exact ⟨n, rfl, hw.1, hw.2, bulk_int _ _⟩
theorem small_le {ds : List (DataW H)} (hk : Rows.uptoSmall H ds = true) : (ds.map Rows.uptoBulk).sum ≤ 1048576 := by
  have := of_decide_eq_true hk
  rwa [bulkAll_eq] at this
end
end Go.Proofs.YthgbpgjpnaanlaaGreatDoor

/-
  Readings of attributes: what lies in memory.
-/
set_option linter.unusedSimpArgs false
set_option linter.unusedVariables false
set_option linter.unnecessarySimpa false
namespace Go.Proofs.YthgbpgjpnaanlaaGreatDoor
open Go Go.Sv Go.RowKit Go.ChangeShapes Go.WideShapes Go.Deep

theorem c_str : Tryz.prog.cellsOf 9 = 1 := by kernel_rfl
theorem c_attrs : Tryz.prog.cellsOf 42 = 1 := by kernel_rfl
theorem c_attr : Tryz.prog.cellsOf 74 = 2 := by kernel_rfl
section
variable {H : Type} {enc : TypeId × Value → H} {w : World} {base : Nat} {spare : Nat → Bool} {held : Bool}
set_option maxRecDepth 100000 in
theorem open_at {fuel : Nat} {cs : List Value} {x : DataW H × List MemPlace} (h : DataW.trod enc Tryz.prog w base spare held fuel 74 cs = some x) : ∃ r : At, cs = r.cells ∧ True ∧ r.wt ≤ Rows.uptoBulk x.1 := by
  obtain ⟨xs, n, _, rfl, hl, hlen, hf⟩ := DataW.trod_struct Tryz.underlying74 h
  rw [c_attr] at hl
  have f0 := hf 0 _ rfl
  have f1 := hf 1 _ rfl
  clear hf h
  match cs, hl with
  | [c0, c1], _ =>
    match xs, hlen with
    | [y0, y1], _ =>
      simp only [c_str, List.drop_zero, List.drop_succ_cons, List.take_succ_cons, List.take_zero, List.getElem?_cons_zero, List.getElem?_cons_succ] at f0 f1
      obtain ⟨l0, e0, b0⟩ := open_strc Tryz.underlying9 f0
      obtain ⟨l1, e1, b1⟩ := open_strc Tryz.underlying9 f1
      injection e0 with e0
      injection e1 with e1
      subst e0 e1
      refine ⟨⟨l0, l1⟩, rfl, trivial, ?_⟩
      rw [bulk_agg]
      simp only [List.map_cons, List.map_nil, List.sum_cons, List.sum_nil, b0, b1, At.wt]
      omega
end
end Go.Proofs.YthgbpgjpnaanlaaGreatDoor

/-
  Readings of events: what lies in memory.
-/
set_option linter.unusedSimpArgs false
set_option linter.unusedVariables false
set_option linter.unnecessarySimpa false
namespace Go.Proofs.YthgbpgjpnaanlaaGreatDoor
open Go Go.Sv Go.RowKit Go.ChangeShapes Go.WideShapes Go.Deep
theorem c_ekind : Tryz.prog.cellsOf 41 = 1 := by kernel_rfl
theorem c_ev : Tryz.prog.cellsOf 44 = 4 := by kernel_rfl
section
variable {H : Type} {enc : TypeId × Value → H} {w : World} {base : Nat} {spare : Nat → Bool} {held : Bool}
set_option maxRecDepth 100000 in
theorem open_ev {fuel : Nat} {cs : List Value} {x : DataW H × List MemPlace} (h : DataW.trod enc Tryz.prog w base spare held fuel 44 cs = some x) : ∃ r : EvM, cs = r.cells ∧ Im [] w r.p (r.e.attrs.flatMap At.cells) ∧ r.e.wt ≤ Rows.uptoBulk x.1 := by
  obtain ⟨xs, n, _, rfl, hl, hlen, hf⟩ := DataW.trod_struct Tryz.underlying44 h
  rw [c_ev] at hl
  have f0 := hf 0 _ rfl
  have f1 := hf 1 _ rfl
  have f2 := hf 2 _ rfl
  have f3 := hf 3 _ rfl
  clear hf h
  match cs, hl with
  | [c0, c1, c2, c3], _ =>
    match xs, hlen with
    | [y0, y1, y2, y3], _ =>
      simp only [c_str, c_ekind, c_attrs, List.drop_zero, List.drop_succ_cons, List.take_succ_cons, List.take_zero, List.getElem?_cons_zero, List.getElem?_cons_succ] at f0 f1 f2 f3
      obtain ⟨k, e0, _, _, b0⟩ := open_intc Tryz.underlying41 f0
      obtain ⟨l1, e1, b1⟩ := open_strc Tryz.underlying9 f1
      obtain ⟨l2, e2, b2⟩ := open_strc Tryz.underlying9 f2
      obtain ⟨p, c, es, e3, _, _, him, _, b3⟩ := open_recs At.cells At.wt (fun _ => True) Tryz.underlying42 f3 (fun k cs' y _ hy => open_at hy)
      injection e0 with e0; injection e1 with e1; injection e2 with e2; injection e3 with e3
      subst e0 e1 e2 e3
      refine ⟨⟨⟨k, l1, l2, es⟩, p, c⟩, rfl, him, ?_⟩
      simp only [bulk_agg, List.map_cons, List.map_nil, List.sum_cons, List.sum_nil, b0, b1, b2]
      unfold Ev.wt
      dsimp only at b3 ⊢
      omega
set_option maxRecDepth 100000 in
theorem open_evs {v : Value} {d : DataW H} {ps : List MemPlace} {r : Reach} {b0 : Nat} (hv : Value.okWide Tryz.prog w r b0 22 v) (h : DataW.Trod enc Tryz.prog w base spare held 22 v d ps) :
    ∃ (p : Option Addr) (c : Nat) (ms : List EvM), v = .slice p ms.length c ∧ Evs w p ms ∧ evw ms + 1 ≤ Rows.uptoBulk d := by
  obtain ⟨a, n, cc, rfl⟩ := okWide_slice Tryz.underlying22 hv
  obtain ⟨fuel, hf⟩ := h
  obtain ⟨p, c, ms, e, _, _, him, hQ, hw⟩ := open_recs EvM.cells (fun m => m.e.wt) (fun m => Im [] w m.p (m.e.attrs.flatMap At.cells)) Tryz.underlying22 hf (fun k cs' y _ hy => open_ev hy)
  have e' : Value.slice a n cc = .slice p ms.length c := by simpa [Value.cells] using e
  exact ⟨p, c, ms, e', ⟨him, hQ⟩, hw⟩
end
end Go.Proofs.YthgbpgjpnaanlaaGreatDoor

/-
  Readings of lists of events, with their capacity.
-/
set_option linter.unusedSimpArgs false
set_option linter.unusedVariables false
set_option linter.unnecessarySimpa false
namespace Go.Proofs.YthgbpgjpnaanlaaGreatDoor
open Go Go.Sv Go.RowKit Go.ChangeShapes Go.WideShapes Go.Deep
end Go.Proofs.YthgbpgjpnaanlaaGreatDoor

/-
  Readings of arguments of one cell: numbers, truth values.
-/
set_option linter.unusedSimpArgs false
set_option linter.unusedVariables false
set_option linter.unnecessarySimpa false
namespace Go.Proofs.YthgbpgjpnaanlaaGreatDoor
open Go Go.Sv Go.RowKit Go.ChangeShapes Go.WideShapes Go.Deep
end Go.Proofs.YthgbpgjpnaanlaaGreatDoor

/-
  Readings of arguments of one cell: texts.
-/
set_option linter.unusedSimpArgs false
set_option linter.unusedVariables false
set_option linter.unnecessarySimpa false
namespace Go.Proofs.YthgbpgjpnaanlaaGreatDoor
open Go Go.Sv Go.RowKit Go.ChangeShapes Go.WideShapes Go.Deep
section
variable {H : Type} {enc : TypeId × Value → H} {w : World} {base : Nat} {spare : Nat → Bool} {held : Bool}
set_option maxRecDepth 100000 in
theorem open_str1 {v : Value} {d : DataW H} {ps : List MemPlace} {r : Reach} {b0 : Nat} (hv : Value.okWide Tryz.prog w r b0 9 v) (h : DataW.Trod enc Tryz.prog w base spare held 9 v d ps) :
    ∃ l : List UInt8, v = str l ∧ l.length + 1 ≤ Rows.uptoBulk d := by
  obtain ⟨s, rfl⟩ := okWide_string Tryz.underlying9 hv
  obtain ⟨fuel, hf⟩ := h
  obtain ⟨l, e, hw⟩ := open_strc Tryz.underlying9 hf
  dsimp only at hw
  exact ⟨l, by simpa [Value.cells] using e, by omega⟩
end
end Go.Proofs.YthgbpgjpnaanlaaGreatDoor

/-
  What a row's list says of the table of blanks; a world for the witness.
-/
set_option linter.unusedSimpArgs false
set_option linter.unusedVariables false
set_option linter.unnecessarySimpa false
namespace Go.Proofs.YthgbpgjpnaanlaaGreatDoor
open Go Go.Sv Go.RowKit Go.ChangeShapes Go.WideShapes Go.ChangeAt

theorem laid_at {P : Program} {W : World} {name : String} {d : DataW Unit} : ∀ {laid : List (String × DataW Unit)} {ps : List MemPlace}, DataW.LaidVars P W laid ps → (name, d) ∈ laid →
    ∃ g t cs fuel p, P.globalNamed name = some g ∧ (P.globals[g]?).map (·.type) = some t ∧ W.var? P name = some cs ∧ DataW.trod (fun _ => ()) P W 0 (fun _ => true) false fuel t cs.toList = some (d, p)
  | [], _, _, hm => by cases hm
  | x :: laid, ps, h, hm => by
    obtain ⟨g', t', cs, fuel, p, q, hg', ht', hvar, hd, hr, _⟩ := h
    rcases List.mem_cons.1 hm with rfl | hm
    · exact ⟨g', t', cs, fuel, p, hg', ht', hvar, hd⟩
    · exact laid_at hr hm
theorem gAscType : (Tryz.prog.globals[0]?).map (·.type) = some 126 := by kernel_rfl
set_option maxRecDepth 100000 in
theorem asc_of {W : World} {laid : List (String × DataW Unit)} (h : laidMet Tryz.prog laid W) (hm : ("strings.asciiSpace", Rows.laid_strings_asciiSpace) ∈ laid) : Asc W := by
  obtain ⟨ps, hL, _⟩ := h
  obtain ⟨g', t', cs, fuel, p, hg', ht', hvar, hd⟩ := laid_at hL hm
  obtain rfl := Option.some.inj (gAsc.symm.trans hg')
  obtain rfl := Option.some.inj (gAscType.symm.trans ht')
  have e : (Rows.laid_strings_asciiSpace : DataW Unit) = Lib.tabData .u8 Lib.asciiSpaceTab := by kernel_rfl
  rw [e] at hd
  unfold Asc Lib.TabIs
  rw [hvar, ← Lib.cells_of_tab Tryz.underlying126 Tryz.underlying5 (by kernel_rfl) (by kernel_rfl) hd]
/-- a world for the witness: the variables hold what their initialisers lay -/
noncomputable def ascHeap (h : Array Obj) : Array Obj :=
  (((h.modify 0 fun | .cells _ t f => .cells (Lib.asciiSpaceTab.map fun z => Value.int .u8 z).toArray t f | o => o).modify 1 fun
    | .cells _ t f => .cells #[.pointer (some ⟨h.size, 0, none⟩)] t f | o => o).push (.cells #[.slice (some ⟨h.size + 1, 0, none⟩) 7 7, .slice none 0 0, .int .i64 2] 158 (0, 0))).push
    (.cells (([9, 13, 1, 32, 133, 101, 160, 5760, 5600, 8192, 8202, 1, 8232, 8233, 1, 8239, 8287, 48, 12288, 12288, 1] : List Int).map fun z => Value.int .u16 z).toArray 161 (0, 0))
noncomputable def ascWorld (os : Os) : World := { World.holding Tryz.prog os ⟨#[], #[], []⟩ with heap := ascHeap (World.holding Tryz.prog os ⟨#[], #[], []⟩).heap }
end Go.Proofs.YthgbpgjpnaanlaaGreatDoor

/-
  A world for the witness of cards that list the tables of blanks and those of package utf8.
-/
set_option linter.unusedSimpArgs false
set_option linter.unusedVariables false
set_option linter.unnecessarySimpa false
namespace Go.Proofs.YthgbpgjpnaanlaaGreatDoor
open Go Go.Sv Go.RowKit Go.ChangeShapes Go.WideShapes Go.ChangeAt
noncomputable def bakHeap (h : Array Obj) : Array Obj :=
  ascHeap ((h.modify 3 fun
    | .cells _ t f => .cells (Go.Pinned.utf8FirstZ.map fun (z : Nat) => Value.int .u8 z).toArray t f | o => o).modify 4 fun
    | .cells _ t f => .cells (([128, 191, 160, 191, 128, 159, 144, 191, 128, 143] ++ List.replicate 22 0 : List Int).map fun z => Value.int .u8 z).toArray t f | o => o)
noncomputable def bakWorld (os : Os) : World := { World.holding Tryz.prog os ⟨#[], #[], []⟩ with heap := bakHeap (World.holding Tryz.prog os ⟨#[], #[], []⟩).heap }
end Go.Proofs.YthgbpgjpnaanlaaGreatDoor

