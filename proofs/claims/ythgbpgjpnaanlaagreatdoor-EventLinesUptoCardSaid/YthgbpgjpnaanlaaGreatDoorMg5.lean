/-
  Our texts SvInN, SvEvC, SvTpA, SvTpB, SvEbA, SvTpI, SvSpl, SvEvN, SvEvW, SvLkE, SvEvX, SvRf, SvEvY, SvEbB, SvMr, SvMi, SvFv, SvPb, SvGen, SvEq, SvTabE, SvEvE, SvEvO, SvEvP, SvEvU, SvEvV, SvEcA, joined.
-/
import Derived.Test.YthgbpgjpnaanlaaGreatDoorMg4
import Derived.Maps.RangeRun
import Derived.Laws.StructEq
import Derived.Test.YthgbpgjpnaanlaaGreatDoorRows
/-
  Packages names and sieveref04: In, of the void elements.
-/
set_option linter.unusedSimpArgs false
set_option linter.unusedVariables false
set_option linter.unnecessarySimpa false
namespace Go.Proofs.YthgbpgjpnaanlaaGreatDoor
open Go Go.Sv Go.RowKit

/-- strings.Fields, of ASCII -/
theorem strFields_ok (s : List UInt8) (hb : s.length ≤ 1048576) (ha : s.all (fun c => decide (c.toNat < 128)) = true) (w : World) (hA : Asc w) :
    CallsR Tryz.prog 52 #[str s] w fun v w' => ∃ b, v = .slice (pb b) (Lib.fields s).length (Lib.fields s).length ∧ Sep w w' [pOwn b (strs (Lib.fields s))] := by
  refine Calls.mono (Tryz.strings_Fields ⟨s.toArray⟩ w (by rw [ByteArray.size]; simp; omega) (fun j b hb => ?_) hA) ?_
  · have hm := List.mem_of_getElem? hb
    have := List.all_eq_true.1 ha b (by simpa using hm)
    simpa using this
  · rintro e w' ⟨rfl, rfl⟩
    refine ⟨_, rfl, w.heap.size, rfl, ?_⟩
    refine (Sep.start w).push (frm_alloc w _) (own_alloc w _ _) (by simp [pOwn])
theorem mem_at {α : Type} {l : List α} {x : α} (h : ∀ i : Nat, (hi : i < l.length) → l[i] ≠ x) : x ∉ l := by
  intro hm
  obtain ⟨i, hi, e⟩ := List.mem_iff_getElem.1 hm
  exact h i hi e
set_option maxHeartbeats 1000000 in
theorem in0_ok (n : List UInt8) (w : World) (hA : Asc w) : PureC Tryz.prog 31 #[str n, int 0] w (.bool (voidR n)) := by
  refine enter (l := [str n, int 0]) Tryz.func31 rfl Tryz.ntmps31 (by kernel_rfl) rfl ?_
  refine sgo ?_
  refine wlpure (isSet_ok 0 (by decide) _) fun w1 hf1 => ?_
  refine sgo ?_
  refine wlcall (lists_ok w1) ?_
  rintro _ w2 ⟨hf2, vs, rfl, h0⟩
  refine sgo ?_
  refine wlcall (strFields_ok (voidT ++ [32]) (by decide) (by decide) w2 ((hA.frm hf1).frm hf2)) ?_
  rintro _ w3 ⟨b, rfl, hS⟩
  rw [void_fields] at hS ⊢
  have hf := hf1.trans hf2
  replace hS : Sep w w3 [pOwn b (strs voidL)] := ⟨hf.trans hS.frm, hS.ok, fun c hc x hx => Nat.le_trans hf.size (hS.low c hc x hx), hS.apart⟩
  refine sgo ?_
  refine wcloop (X := Nat) (fun i => [(0, str n), (13, .slice (pb b) voidL.length voidL.length), (14, int voidL.length), (15, int i)])
    (fun i wr => i ≤ voidL.length ∧ (∀ j, (hj : j < voidL.length) → j < i → voidL[j] ≠ n) ∧ wr = w3) (fun i => voidL.length - i) 0 ⟨rfl, rfl, rfl, rfl, trivial⟩ ⟨Nat.zero_le _, fun _ _ h => absurd h (by omega), rfl⟩ ?_
  rintro i wr ρ ⟨hil, hj, rfl⟩
  refine sgo ?_
  (show WC _ _ _ _ _ _ _; first | refine WC_dec rfl (fun hc => ?_) (fun hc => ?_) | refine WC_cond rfl (fun hc => ?_) (fun hc => ?_))
  · have hlt : i < voidL.length := by omega
    have hvl := voidL_len
    have hg := strs_get hlt
    generalize hx : voidL[i] = x at *
    clear hc
    refine sgo ?_
    (show WC _ _ _ _ _ _ _; first | refine WC_dec rfl (fun hc => ?_) (fun hc => ?_) | refine WC_cond rfl (fun hc => ?_) (fun hc => ?_))
    · refine sgo ?_
      (first | refine fp1 (.inl rfl) rfl rfl ?_ | refine fp2 (.inl rfl) rfl rfl rfl ?_ | refine fp3 (.inl rfl) rfl rfl rfl rfl ?_ | refine fp0 (.inr rfl) rfl ?_ | refine fp0 (.inl rfl) rfl ?_ | refine fp1 (.inr rfl) rfl rfl ?_); refine ⟨?_, by (first | exact Frm.refl _ | assumption | exact Go.Sv.Sep.frm (by assumption) | (refine Frm.trans ?_ (by assumption); first | exact Frm.refl _ | assumption))⟩; (try simp only [realB, rv_true, Nat.reduceBEq, cond_true, cond_false, entG, real_lif, updGL])
      rw [voidR, decide_eq_true]
      rw [← hc, ← hx]; exact List.getElem_mem hlt
    · refine sgo ?_
      refine ⟨i + 1, ⟨rfl, rfl, rfl, rfl, trivial⟩, ⟨hlt, fun j hj' hji => ?_, rfl⟩, (by (try dsimp only); omega)⟩
      rcases Nat.lt_or_ge j i with h | h
      · exact hj j hj' h
      · obtain rfl : j = i := by omega
        rw [hx]; exact hc
  · refine sgo ?_
    (first | refine fp1 (.inl rfl) rfl rfl ?_ | refine fp2 (.inl rfl) rfl rfl rfl ?_ | refine fp3 (.inl rfl) rfl rfl rfl rfl ?_ | refine fp0 (.inr rfl) rfl ?_ | refine fp0 (.inl rfl) rfl ?_ | refine fp1 (.inr rfl) rfl rfl ?_); refine ⟨?_, by (first | exact Frm.refl _ | assumption | exact Go.Sv.Sep.frm (by assumption) | (refine Frm.trans ?_ (by assumption); first | exact Frm.refl _ | assumption))⟩; (try simp only [realB, rv_true, Nat.reduceBEq, cond_true, cond_false, entG, real_lif, updGL])
    rw [voidR, decide_eq_false]
    exact mem_at fun j hj' => hj j hj' (by omega)
set_option maxHeartbeats 1000000 in
theorem text0_ok (w : World) : PureC Tryz.prog 66 #[int 0] w (str voidT) := by
  refine enter (l := [int 0]) Tryz.func66 rfl Tryz.ntmps66 (by kernel_rfl) rfl ?_
  refine sgo ?_
  (first | refine fp1 (.inl rfl) rfl rfl ?_ | refine fp2 (.inl rfl) rfl rfl rfl ?_ | refine fp3 (.inl rfl) rfl rfl rfl rfl ?_ | refine fp0 (.inr rfl) rfl ?_ | refine fp0 (.inl rfl) rfl ?_ | refine fp1 (.inr rfl) rfl rfl ?_); refine ⟨?_, by (first | exact Frm.refl _ | assumption | exact Go.Sv.Sep.frm (by assumption) | (refine Frm.trans ?_ (by assumption); first | exact Frm.refl _ | assumption))⟩; (try simp only [realB, rv_true, Nat.reduceBEq, cond_true, cond_false, entG, real_lif, updGL])
  rfl
set_option maxHeartbeats 1000000 in
theorem refIn0_ok (n : List UInt8) (w : World) : PureC Tryz.prog 39 #[str n, int 0] w (.bool (voidR n)) := by
  refine enter (l := [str n, int 0]) Tryz.func39 rfl Tryz.ntmps39 (by kernel_rfl) rfl ?_
  refine sgo ?_
  (show WC _ _ _ _ _ _ _; first | refine WC_dec rfl (fun hc => ?_) (fun hc => ?_) | refine WC_cond rfl (fun hc => ?_) (fun hc => ?_))
  · subst hc
    refine sgo ?_
    (first | refine fp1 (.inl rfl) rfl rfl ?_ | refine fp2 (.inl rfl) rfl rfl rfl ?_ | refine fp3 (.inl rfl) rfl rfl rfl rfl ?_ | refine fp0 (.inr rfl) rfl ?_ | refine fp0 (.inl rfl) rfl ?_ | refine fp1 (.inr rfl) rfl rfl ?_); refine ⟨?_, by (first | exact Frm.refl _ | assumption | exact Go.Sv.Sep.frm (by assumption) | (refine Frm.trans ?_ (by assumption); first | exact Frm.refl _ | assumption))⟩; (try simp only [realB, rv_true, Nat.reduceBEq, cond_true, cond_false, entG, real_lif, updGL])
    rw [show voidR [] = false from by decide +kernel]
  refine sgo ?_
  refine wlpure (text0_ok _) fun w1 hf1 => ?_
  refine sgo ?_
  refine wlcall (refFields_ok voidT (by decide) w1) ?_
  rintro _ w3 ⟨q, c, rfl, hS⟩
  rw [show fieldsR voidT = voidL from rfl] at hS ⊢
  replace hS : Sep w w3 [pRow 1 q voidL.length c (strs voidL)] := ⟨hf1.trans hS.frm, hS.ok, fun c hc x hx => Nat.le_trans hf1.size (hS.low c hc x hx), hS.apart⟩
  have hq : ∃ a, q = some a := (hS.row 0 rfl).sg.some (by decide)
  clear hc
  refine sgo ?_
  refine wcloop (X := Nat) (fun i => [(0, str n), (11, .slice q voidL.length c), (12, int voidL.length), (13, int i)])
    (fun i wr => i ≤ voidL.length ∧ (∀ j, (hj : j < voidL.length) → j < i → voidL[j] ≠ n) ∧ wr = w3) (fun i => voidL.length - i) 0 ⟨rfl, rfl, rfl, rfl, trivial⟩ ⟨Nat.zero_le _, fun _ _ h => absurd h (by omega), rfl⟩ ?_
  rintro i wr ρ ⟨hil, hj, rfl⟩
  refine sgo ?_
  (show WC _ _ _ _ _ _ _; first | refine WC_dec rfl (fun hc => ?_) (fun hc => ?_) | refine WC_cond rfl (fun hc => ?_) (fun hc => ?_))
  · have hlt : i < voidL.length := by omega
    have hvl := voidL_len
    have hg := strs_get hlt
    generalize hx : voidL[i] = x at *
    clear hc
    refine sgo ?_
    (show WC _ _ _ _ _ _ _; first | refine WC_dec rfl (fun hc => ?_) (fun hc => ?_) | refine WC_cond rfl (fun hc => ?_) (fun hc => ?_))
    · refine sgo ?_
      (first | refine fp1 (.inl rfl) rfl rfl ?_ | refine fp2 (.inl rfl) rfl rfl rfl ?_ | refine fp3 (.inl rfl) rfl rfl rfl rfl ?_ | refine fp0 (.inr rfl) rfl ?_ | refine fp0 (.inl rfl) rfl ?_ | refine fp1 (.inr rfl) rfl rfl ?_); refine ⟨?_, by (first | exact Frm.refl _ | assumption | exact Go.Sv.Sep.frm (by assumption) | (refine Frm.trans ?_ (by assumption); first | exact Frm.refl _ | assumption))⟩; (try simp only [realB, rv_true, Nat.reduceBEq, cond_true, cond_false, entG, real_lif, updGL])
      rw [voidR, decide_eq_true]
      rw [← hc, ← hx]; exact List.getElem_mem hlt
    · refine sgo ?_
      refine ⟨i + 1, ⟨rfl, rfl, rfl, rfl, trivial⟩, ⟨hlt, fun j hj' hji => ?_, rfl⟩, (by (try dsimp only); omega)⟩
      rcases Nat.lt_or_ge j i with h | h
      · exact hj j hj' h
      · obtain rfl : j = i := by omega
        rw [hx]; exact hc
  · refine sgo ?_
    (first | refine fp1 (.inl rfl) rfl rfl ?_ | refine fp2 (.inl rfl) rfl rfl rfl ?_ | refine fp3 (.inl rfl) rfl rfl rfl rfl ?_ | refine fp0 (.inr rfl) rfl ?_ | refine fp0 (.inl rfl) rfl ?_ | refine fp1 (.inr rfl) rfl rfl ?_); refine ⟨?_, by (first | exact Frm.refl _ | assumption | exact Go.Sv.Sep.frm (by assumption) | (refine Frm.trans ?_ (by assumption); first | exact Frm.refl _ | assumption))⟩; (try simp only [realB, rv_true, Nat.reduceBEq, cond_true, cond_false, entG, real_lif, updGL])
    rw [voidR, decide_eq_false]
    exact mem_at fun j hj' => hj j hj' (by omega)
end Go.Proofs.YthgbpgjpnaanlaaGreatDoor

/-
  Packages event and sieveref18: which events may be.
-/
set_option linter.unusedSimpArgs false
set_option linter.unusedVariables false
set_option linter.unnecessarySimpa false
namespace Go.Sv
open Go Go.RowKit
section
variable {P : Program} {n : Nat} {ds : Ctx} {ops : Array Oper} {Q : Exit → Ctx → Env → World → Prop} {rest : List Oper} {σ : GE} {w : World} {d : Nat} {ty t : TypeId} {pos : String} {af : Array Edge} {zv : Value} {size bytes : Nat} {j dj : Nat} {want b c : Bool}
theorem bm2 {σ : Env} {x y : Operand} {v u : Value} {i k : Nat} (h : evl σ x = v) (h2 : evl σ y = u) : [(i, x), (k, y)].map (fun p => (p.1, evl σ p.2)) = [(i, v), (k, u)] := by simp [h, h2]
theorem bm3 {σ : Env} {x y z : Operand} {v u r : Value} {i k m : Nat} (h : evl σ x = v) (h2 : evl σ y = u) (h3 : evl σ z = r) : [(i, x), (k, y), (m, z)].map (fun p => (p.1, evl σ p.2)) = [(i, v), (k, u), (m, r)] := by simp [h, h2, h3]
/-- a guarded literal of a struct -/
theorem wlgbuildv {pl : List (Nat × Nat)} {ps : List (Nat × Operand)} {vals : List (Nat × Value)} {cells : List Value} [hf : Flds P t pl] [hi : Inf P t zv size bytes]
    (hv : (b && (c == want)) = true → ps.map (fun p => (p.1, evl (real σ) p.2)) = vals)
    (h : WL P n ds ops Q rest (real (updG σ d ⟨.agg cells.toArray, b && (c == want)⟩)) w)
    (hc : fillL pl zv.cells.toList vals = some cells := by
      simp [Go.Sv.fillL, Go.Sv.setSeg, Go.Value.cells]
      first | done | rfl)
    (hj : (ops[j]?).bind (·.dst) = some dj := by rfl) (hσ : σ dj = ⟨.bool c, b⟩ := by rfl) :
    WL P n ds ops Q (⟨some d, .build t ps.toArray, ty, pos, af, some (j, want)⟩ :: rest) (real σ) w :=
  wlg h hj hσ fun hg => y_build (by rw [hv hg]; exact hc)
end
end Go.Sv
namespace Go.Proofs.YthgbpgjpnaanlaaGreatDoor
open Go Go.Sv Go.RowKit

/-- may an event be? -/
def evR (e : Ev) : Bool :=
  if e.kind = 0 then !decide (e.text = []) && validR e.text && decide (e.name = []) && decide (e.attrs.length = 0)
  else if e.kind = 1 then decide (e.text = []) && mayR e.start && !voidR e.name
  else if e.kind = 3 then decide (e.text = []) && mayR e.start && voidR e.name
  else if e.kind = 2 then decide (e.text = []) && decide (e.attrs.length = 0) && mayR e.close
  else false

set_option maxHeartbeats 1000000 in
theorem evStart_ok (e : Ev) (p : Option Addr) (c : Nat) (hs : e.small) (w : World) (hi : Im [] w p (e.attrs.flatMap At.cells)) :
    PureC Tryz.prog 30 #[.agg ⟨e.cells p c⟩] w (.bool (mayR e.start)) := by
  obtain ⟨k, nm, tx, es⟩ := e
  refine enter (l := [.agg ⟨Ev.cells ⟨k, nm, tx, es⟩ p c⟩]) Tryz.func30 rfl Tryz.ntmps30 (by kernel_rfl) rfl ?_
  have hS := Sep.start w
  refine sgo ?_
  refine sbox (v := .agg ⟨Ev.cells ⟨k, nm, tx, es⟩ p c⟩) hS fun b w1 hS => ?_
  replace hS : Sep w w1 [pOwn b [int k, str nm, str tx, .slice p es.length c]] := hS
  refine sgo ?_
  refine wlbuild ?_
  refine wlpure (check_ok (Ev.start ⟨k, nm, tx, es⟩) p c (Ev.start_small hs) w1 (hi.sep hS)) fun w2 hf2 => ?_
  replace hS := hS.grow hf2
  refine sgo ?_
  (first | refine fp1 (.inl rfl) rfl rfl ?_ | refine fp2 (.inl rfl) rfl rfl rfl ?_ | refine fp3 (.inl rfl) rfl rfl rfl rfl ?_ | refine fp0 (.inr rfl) rfl ?_ | refine fp0 (.inl rfl) rfl ?_ | refine fp1 (.inr rfl) rfl rfl ?_); refine ⟨?_, by (first | exact Frm.refl _ | assumption | exact Go.Sv.Sep.frm (by assumption) | (refine Frm.trans ?_ (by assumption); first | exact Frm.refl _ | assumption))⟩; (try simp only [realB, rv_true, Nat.reduceBEq, cond_true, cond_false, entG, real_lif, updGL])
  cases mayR (Ev.start ⟨k, nm, tx, es⟩) <;> rfl
set_option maxHeartbeats 4000000 in
theorem evCheck_ok (e : Ev) (p : Option Addr) (c : Nat) (hs : e.small) (w : World) (hA : Asc w) (hi : Im [] w p (e.attrs.flatMap At.cells)) :
    PureC Tryz.prog 12 #[.agg ⟨e.cells p c⟩] w (int (if evR e then 0 else 180)) := by
  have hev : evR e = evR e := rfl
  obtain ⟨k, nm, tx, es⟩ := e
  have htx := hs.text
  dsimp only at htx hi
  conv at hev => lhs; unfold evR
  dsimp only at hev
  refine enter (l := [.agg ⟨Ev.cells ⟨k, nm, tx, es⟩ p c⟩]) Tryz.func12 rfl Tryz.ntmps12 (by kernel_rfl) rfl ?_
  have hS := Sep.start w
  refine sgo ?_
  refine sbox (v := .agg ⟨Ev.cells ⟨k, nm, tx, es⟩ p c⟩) hS fun b w1 hS => ?_
  replace hS : Sep w w1 [pOwn b [int k, str nm, str tx, .slice p es.length c]] := hS
  refine sgo ?_
  (show WC _ _ _ _ _ _ _; first | refine WC_dec rfl (fun hc => ?_) (fun hc => ?_) | refine WC_cond rfl (fun hc => ?_) (fun hc => ?_))
  · replace hc : k = 0 := hc
    subst hc
    refine sgo ?_
    refine wls2bg (s := tx) (by omega) fun q cc w2 hI hf2 => ?_
    refine wlcallgp (vals := [.slice (pb q) tx.length cc]) (fun hg => valid_ok tx (pb q) tx.length cc rfl (hI hg).1 (by omega) [] w2 (hI hg).2.2) fun w3 hf3 => ?_
    rw [valid_eq]
    replace hS := (hS.grow hf2).grow hf3
    refine sgo ?_
    have hB : pkb (pkb (pkb (decide (tx ≠ [])) (validR tx) false) (decide (nm = [])) false) (decide ((es.length : Int) = 0)) false = evR ⟨0, nm, tx, es⟩ := by
      rw [← hev, if_pos rfl]; simp [pkb_and]
    rw [hB]
    cases evR ⟨0, nm, tx, es⟩ <;> (refine sgo ?_; (first | refine fp1 (.inl rfl) rfl rfl ?_ | refine fp2 (.inl rfl) rfl rfl rfl ?_ | refine fp3 (.inl rfl) rfl rfl rfl rfl ?_ | refine fp0 (.inr rfl) rfl ?_ | refine fp0 (.inl rfl) rfl ?_ | refine fp1 (.inr rfl) rfl rfl ?_); refine ⟨?_, by (first | exact Frm.refl _ | assumption | exact Go.Sv.Sep.frm (by assumption) | (refine Frm.trans ?_ (by assumption); first | exact Frm.refl _ | assumption))⟩; (try simp only [realB, rv_true, Nat.reduceBEq, cond_true, cond_false, entG, real_lif, updGL]); first | rfl | (simp; done))
  replace hc : ¬ k = 0 := hc
  rw [if_neg hc] at hev
  have hk0 := hc
  clear hc
  refine sgo ?_
  (show WC _ _ _ _ _ _ _; first | refine WC_dec rfl (fun hc => ?_) (fun hc => ?_) | refine WC_cond rfl (fun hc => ?_) (fun hc => ?_))
  · replace hc : k = 1 := hc
    subst hc
    refine sgo ?_
    refine wlcallgp (vals := [.agg ⟨Ev.cells ⟨1, nm, tx, es⟩ p c⟩]) (fun hg => evStart_ok ⟨1, nm, tx, es⟩ p c hs w1 (hi.sep hS)) fun w3 hf3 => ?_
    replace hS := hS.grow hf3
    refine sgo ?_
    refine wlcallgp (vals := [str nm, int 0]) (fun hg => in0_ok nm w3 (hA.frm hS.frm)) fun w4 hf4 => ?_
    replace hS := hS.grow hf4
    refine sgo ?_
    have hB : pkb (pkb (decide (tx = [])) (mayR (Ev.start ⟨1, nm, tx, es⟩)) false) (!voidR nm) false = evR ⟨1, nm, tx, es⟩ := by
      rw [← hev, if_pos rfl]; simp [pkb_and]
    rw [hB]
    cases evR ⟨1, nm, tx, es⟩ <;> (refine sgo ?_; (first | refine fp1 (.inl rfl) rfl rfl ?_ | refine fp2 (.inl rfl) rfl rfl rfl ?_ | refine fp3 (.inl rfl) rfl rfl rfl rfl ?_ | refine fp0 (.inr rfl) rfl ?_ | refine fp0 (.inl rfl) rfl ?_ | refine fp1 (.inr rfl) rfl rfl ?_); refine ⟨?_, by (first | exact Frm.refl _ | assumption | exact Go.Sv.Sep.frm (by assumption) | (refine Frm.trans ?_ (by assumption); first | exact Frm.refl _ | assumption))⟩; (try simp only [realB, rv_true, Nat.reduceBEq, cond_true, cond_false, entG, real_lif, updGL]); first | rfl | (simp; done))
  replace hc : ¬ k = 1 := hc
  rw [if_neg hc] at hev
  have hk1 := hc
  clear hc
  refine sgo ?_
  (show WC _ _ _ _ _ _ _; first | refine WC_dec rfl (fun hc => ?_) (fun hc => ?_) | refine WC_cond rfl (fun hc => ?_) (fun hc => ?_))
  · replace hc : k = 3 := hc
    subst hc
    refine sgo ?_
    refine wlcallgp (vals := [.agg ⟨Ev.cells ⟨3, nm, tx, es⟩ p c⟩]) (fun hg => evStart_ok ⟨3, nm, tx, es⟩ p c hs w1 (hi.sep hS)) fun w3 hf3 => ?_
    replace hS := hS.grow hf3
    refine sgo ?_
    refine wlcallgp (vals := [str nm, int 0]) (fun hg => in0_ok nm w3 (hA.frm hS.frm)) fun w4 hf4 => ?_
    replace hS := hS.grow hf4
    refine sgo ?_
    have hB : pkb (pkb (decide (tx = [])) (mayR (Ev.start ⟨3, nm, tx, es⟩)) false) (voidR nm) false = evR ⟨3, nm, tx, es⟩ := by
      rw [← hev, if_pos rfl]; simp [pkb_and]
    rw [hB]
    cases evR ⟨3, nm, tx, es⟩ <;> (refine sgo ?_; (first | refine fp1 (.inl rfl) rfl rfl ?_ | refine fp2 (.inl rfl) rfl rfl rfl ?_ | refine fp3 (.inl rfl) rfl rfl rfl rfl ?_ | refine fp0 (.inr rfl) rfl ?_ | refine fp0 (.inl rfl) rfl ?_ | refine fp1 (.inr rfl) rfl rfl ?_); refine ⟨?_, by (first | exact Frm.refl _ | assumption | exact Go.Sv.Sep.frm (by assumption) | (refine Frm.trans ?_ (by assumption); first | exact Frm.refl _ | assumption))⟩; (try simp only [realB, rv_true, Nat.reduceBEq, cond_true, cond_false, entG, real_lif, updGL]); first | rfl | (simp; done))
  replace hc : ¬ k = 3 := hc
  rw [if_neg hc] at hev
  have hk3 := hc
  clear hc
  refine sgo ?_
  (show WC _ _ _ _ _ _ _; first | refine WC_dec rfl (fun hc => ?_) (fun hc => ?_) | refine WC_cond rfl (fun hc => ?_) (fun hc => ?_))
  · replace hc : k = 2 := hc
    subst hc
    refine sgo ?_
    refine wlgbuildv (vals := [(0, int 2), (1, str nm)]) (fun hg => bm2 rfl (evG hg)) ?_
    refine wlcallgp (vals := [.agg ⟨Tok.cells (Ev.close ⟨2, nm, tx, es⟩) none 0⟩]) (fun hg => check_ok (Ev.close ⟨2, nm, tx, es⟩) none 0 (Ev.close_small hs) w1 (Im.nil _ _ _)) fun w3 hf3 => ?_
    replace hS := hS.grow hf3
    refine sgo ?_
    have hB : pkb (pkb (decide (tx = [])) (decide ((es.length : Int) = 0)) false) (decide ((if mayR (Ev.close ⟨2, nm, tx, es⟩) = true then (0 : Int) else 70) = 0)) false = evR ⟨2, nm, tx, es⟩ := by
      rw [← hev, if_pos rfl]; cases mayR (Ev.close ⟨2, nm, tx, es⟩) <;> simp [pkb_and]
    rw [hB]
    cases evR ⟨2, nm, tx, es⟩ <;> (refine sgo ?_; (first | refine fp1 (.inl rfl) rfl rfl ?_ | refine fp2 (.inl rfl) rfl rfl rfl ?_ | refine fp3 (.inl rfl) rfl rfl rfl rfl ?_ | refine fp0 (.inr rfl) rfl ?_ | refine fp0 (.inl rfl) rfl ?_ | refine fp1 (.inr rfl) rfl rfl ?_); refine ⟨?_, by (first | exact Frm.refl _ | assumption | exact Go.Sv.Sep.frm (by assumption) | (refine Frm.trans ?_ (by assumption); first | exact Frm.refl _ | assumption))⟩; (try simp only [realB, rv_true, Nat.reduceBEq, cond_true, cond_false, entG, real_lif, updGL]); first | rfl | (simp; done))
  · replace hc : ¬ k = 2 := hc
    rw [if_neg hc] at hev
    rw [← hev]
    refine sgo ?_
    (first | refine fp1 (.inl rfl) rfl rfl ?_ | refine fp2 (.inl rfl) rfl rfl rfl ?_ | refine fp3 (.inl rfl) rfl rfl rfl rfl ?_ | refine fp0 (.inr rfl) rfl ?_ | refine fp0 (.inl rfl) rfl ?_ | refine fp1 (.inr rfl) rfl rfl ?_); refine ⟨?_, by (first | exact Frm.refl _ | assumption | exact Go.Sv.Sep.frm (by assumption) | (refine Frm.trans ?_ (by assumption); first | exact Frm.refl _ | assumption))⟩; (try simp only [realB, rv_true, Nat.reduceBEq, cond_true, cond_false, entG, real_lif, updGL])
    rfl

set_option maxHeartbeats 4000000 in
theorem refEvCheck_ok (e : Ev) (p : Option Addr) (c : Nat) (hs : e.small) (w : World) (hi : Im [] w p (e.attrs.flatMap At.cells)) :
    PureC Tryz.prog 19 #[.agg ⟨e.cells p c⟩] w (.bool (evR e)) := by
  have hev : evR e = evR e := rfl
  obtain ⟨k, nm, tx, es⟩ := e
  have htx := hs.text
  dsimp only at htx hi
  conv at hev => lhs; unfold evR
  dsimp only at hev
  refine enter (l := [.agg ⟨Ev.cells ⟨k, nm, tx, es⟩ p c⟩]) Tryz.func19 rfl Tryz.ntmps19 (by kernel_rfl) rfl ?_
  have hS := Sep.start w
  refine sgo ?_
  refine sbox (v := .agg ⟨Ev.cells ⟨k, nm, tx, es⟩ p c⟩) hS fun b w1 hS => ?_
  replace hS : Sep w w1 [pOwn b [int k, str nm, str tx, .slice p es.length c]] := hS
  refine sgo ?_
  (show WC _ _ _ _ _ _ _; first | refine WC_dec rfl (fun hc => ?_) (fun hc => ?_) | refine WC_cond rfl (fun hc => ?_) (fun hc => ?_))
  · replace hc : k = 0 := hc
    subst hc
    refine sgo ?_
    refine wls2bg (s := tx) (by omega) fun q cc w2 hI hf2 => ?_
    refine wlcallgp (vals := [.slice (pb q) tx.length cc]) (fun hg => refValid_ok tx (pb q) tx.length cc rfl (hI hg).1 (by omega) w2 (hI hg).2.2) fun w3 hf3 => ?_
    replace hS := (hS.grow hf2).grow hf3
    refine sgo ?_
    (first | refine fp1 (.inl rfl) rfl rfl ?_ | refine fp2 (.inl rfl) rfl rfl rfl ?_ | refine fp3 (.inl rfl) rfl rfl rfl rfl ?_ | refine fp0 (.inr rfl) rfl ?_ | refine fp0 (.inl rfl) rfl ?_ | refine fp1 (.inr rfl) rfl rfl ?_); refine ⟨?_, by (first | exact Frm.refl _ | assumption | exact Go.Sv.Sep.frm (by assumption) | (refine Frm.trans ?_ (by assumption); first | exact Frm.refl _ | assumption))⟩; (try simp only [realB, rv_true, Nat.reduceBEq, cond_true, cond_false, entG, real_lif, updGL])
    congr 1
    rw [← hev, if_pos rfl]; simp [pkb_and]
  replace hc : ¬ k = 0 := hc
  rw [if_neg hc] at hev
  have hk0 := hc
  clear hc
  refine sgo ?_
  by_cases hk1 : k = 1
  · subst hk1
    refine sgo ?_
    refine wcdraw ?_
    refine qgo ?_
    refine qlg (v := .agg ⟨Tok.cells (Ev.start ⟨1, nm, tx, es⟩) p c⟩) ?_ rfl rfl (fun hg => YQ.ofY fun _ _ => y_build (cells := Tok.cells (Ev.start ⟨1, nm, tx, es⟩) p c) (by rw [bm3 (v := int 1) rfl (evG hg) (evG hg)]; simp [fillL, setSeg, Value.cells]; rfl))
    refine qlcallgp (vals := [.agg ⟨Tok.cells (Ev.start ⟨1, nm, tx, es⟩) p c⟩]) (v := .bool (mayR (Ev.start ⟨1, nm, tx, es⟩))) (fun hg w' hw' => may_ok (Ev.start ⟨1, nm, tx, es⟩) p c (Ev.start_small hs) w' ((hi.sep hS).frm hw')) ?_
    refine qgo ?_
    refine qlcallgp (vals := [str nm, int 0]) (v := .bool (voidR nm)) (fun hg w' hw' => refIn0_ok nm w') ?_
    refine qgo ?_
    refine QL_nil ?_
    intro wd hwd
    replace hS := hS.grow hwd
    refine sgo ?_
    (first | refine fp1 (.inl rfl) rfl rfl ?_ | refine fp2 (.inl rfl) rfl rfl rfl ?_ | refine fp3 (.inl rfl) rfl rfl rfl rfl ?_ | refine fp0 (.inr rfl) rfl ?_ | refine fp0 (.inl rfl) rfl ?_ | refine fp1 (.inr rfl) rfl rfl ?_); refine ⟨?_, by (first | exact Frm.refl _ | assumption | exact Go.Sv.Sep.frm (by assumption) | (refine Frm.trans ?_ (by assumption); first | exact Frm.refl _ | assumption))⟩; (try simp only [realB, rv_true, Nat.reduceBEq, cond_true, cond_false, entG, real_lif, updGL])
    congr 1
    rw [← hev, if_pos rfl]; cases mayR (Ev.start ⟨1, nm, tx, es⟩) <;> cases voidR nm <;> simp [pkb_and]
  rw [if_neg hk1] at hev
  refine wcno ?_ (ht := decide_eq_false hk1)
  refine sgo ?_
  (show WC _ _ _ _ _ _ _; first | refine WC_dec rfl (fun hc => ?_) (fun hc => ?_) | refine WC_cond rfl (fun hc => ?_) (fun hc => ?_))
  · replace hc : k = 3 := hc
    subst hc
    refine sgo ?_
    refine wcdraw ?_
    refine qgo ?_
    refine qlg (v := .agg ⟨Tok.cells (Ev.start ⟨3, nm, tx, es⟩) p c⟩) ?_ rfl rfl (fun hg => YQ.ofY fun _ _ => y_build (cells := Tok.cells (Ev.start ⟨3, nm, tx, es⟩) p c) (by rw [bm3 (v := int 1) rfl (evG hg) (evG hg)]; simp [fillL, setSeg, Value.cells]; rfl))
    refine qlcallgp (vals := [.agg ⟨Tok.cells (Ev.start ⟨3, nm, tx, es⟩) p c⟩]) (v := .bool (mayR (Ev.start ⟨3, nm, tx, es⟩))) (fun hg w' hw' => may_ok (Ev.start ⟨3, nm, tx, es⟩) p c (Ev.start_small hs) w' ((hi.sep hS).frm hw')) ?_
    refine qgo ?_
    refine qlcallgp (vals := [str nm, int 0]) (v := .bool (voidR nm)) (fun hg w' hw' => refIn0_ok nm w') ?_
    refine qgo ?_
    refine QL_nil ?_
    intro wd hwd
    replace hS := hS.grow hwd
    refine sgo ?_
    (first | refine fp1 (.inl rfl) rfl rfl ?_ | refine fp2 (.inl rfl) rfl rfl rfl ?_ | refine fp3 (.inl rfl) rfl rfl rfl rfl ?_ | refine fp0 (.inr rfl) rfl ?_ | refine fp0 (.inl rfl) rfl ?_ | refine fp1 (.inr rfl) rfl rfl ?_); refine ⟨?_, by (first | exact Frm.refl _ | assumption | exact Go.Sv.Sep.frm (by assumption) | (refine Frm.trans ?_ (by assumption); first | exact Frm.refl _ | assumption))⟩; (try simp only [realB, rv_true, Nat.reduceBEq, cond_true, cond_false, entG, real_lif, updGL])
    congr 1
    rw [← hev, if_pos rfl]; cases mayR (Ev.start ⟨3, nm, tx, es⟩) <;> cases voidR nm <;> simp [pkb_and]
  replace hc : ¬ k = 3 := hc
  rw [if_neg hc] at hev
  have hk3 := hc
  clear hc
  refine sgo ?_
  (show WC _ _ _ _ _ _ _; first | refine WC_dec rfl (fun hc => ?_) (fun hc => ?_) | refine WC_cond rfl (fun hc => ?_) (fun hc => ?_))
  · replace hc : k = 2 := hc
    subst hc
    refine sgo ?_
    refine wlgbuildv (vals := [(0, int 2), (1, str nm)]) (fun hg => bm2 rfl (evG hg)) ?_
    refine wlcallgp (vals := [.agg ⟨Tok.cells (Ev.close ⟨2, nm, tx, es⟩) none 0⟩]) (fun hg => may_ok (Ev.close ⟨2, nm, tx, es⟩) none 0 (Ev.close_small hs) w1 (Im.nil _ _ _)) fun w3 hf3 => ?_
    replace hS := hS.grow hf3
    refine sgo ?_
    (first | refine fp1 (.inl rfl) rfl rfl ?_ | refine fp2 (.inl rfl) rfl rfl rfl ?_ | refine fp3 (.inl rfl) rfl rfl rfl rfl ?_ | refine fp0 (.inr rfl) rfl ?_ | refine fp0 (.inl rfl) rfl ?_ | refine fp1 (.inr rfl) rfl rfl ?_); refine ⟨?_, by (first | exact Frm.refl _ | assumption | exact Go.Sv.Sep.frm (by assumption) | (refine Frm.trans ?_ (by assumption); first | exact Frm.refl _ | assumption))⟩; (try simp only [realB, rv_true, Nat.reduceBEq, cond_true, cond_false, entG, real_lif, updGL])
    congr 1
    rw [← hev, if_pos rfl]; cases mayR (Ev.close ⟨2, nm, tx, es⟩) <;> simp [pkb_and]
  · replace hc : ¬ k = 2 := hc
    rw [if_neg hc] at hev
    rw [← hev]
    refine sgo ?_
    (first | refine fp1 (.inl rfl) rfl rfl ?_ | refine fp2 (.inl rfl) rfl rfl rfl ?_ | refine fp3 (.inl rfl) rfl rfl rfl rfl ?_ | refine fp0 (.inr rfl) rfl ?_ | refine fp0 (.inl rfl) rfl ?_ | refine fp1 (.inr rfl) rfl rfl ?_); refine ⟨?_, by (first | exact Frm.refl _ | assumption | exact Go.Sv.Sep.frm (by assumption) | (refine Frm.trans ?_ (by assumption); first | exact Frm.refl _ | assumption))⟩; (try simp only [realB, rv_true, Nat.reduceBEq, cond_true, cond_false, entG, real_lif, updGL])
end Go.Proofs.YthgbpgjpnaanlaaGreatDoor

/-
  Lines of tokens, read: plain laws.
-/
set_option linter.unusedSimpArgs false
set_option linter.unusedVariables false
set_option linter.unnecessarySimpa false
namespace Go.Proofs.YthgbpgjpnaanlaaGreatDoor
open Go Go.Sv Go.RowKit

/-- behind a first mark: the text up to the next, and the rest -/
def unqR : List UInt8 → List UInt8 → Option (List UInt8 × List UInt8)
  | [], _ => none
  | c :: l, acc =>
    if c.toNat = 34 then some (acc, l)
    else if c.toNat = 9 then none
    else if c.toNat = 92 then
      match l with
      | [] => none
      | d :: l' => if d.toNat = 110 then unqR l' (acc ++ [10]) else if d.toNat = 116 then unqR l' (acc ++ [9]) else if d.toNat = 34 ∨ d.toNat = 92 then unqR l' (acc ++ [d]) else none
    else unqR l (acc ++ [c])
theorem unqR_cons (c : UInt8) (l acc : List UInt8) : unqR (c :: l) acc =
    if c.toNat = 34 then some (acc, l)
    else if c.toNat = 9 then none
    else if c.toNat = 92 then
      match l with
      | [] => none
      | d :: l' => if d.toNat = 110 then unqR l' (acc ++ [10]) else if d.toNat = 116 then unqR l' (acc ++ [9]) else if d.toNat = 34 ∨ d.toNat = 92 then unqR l' (acc ++ [d]) else none
    else unqR l (acc ++ [c]) := by
  cases l <;> rfl
/-- a quoted text at the front -/
def qtxR : List UInt8 → Option (List UInt8 × List UInt8)
  | [] => none
  | c :: l => if c.toNat = 34 then unqR l [] else none
theorem unqR_suf : ∀ (n : Nat) (l acc : List UInt8) (t r : List UInt8), l.length ≤ n → unqR l acc = some (t, r) → r <:+ l ∧ r.length < l.length ∧ t.length + r.length + 1 ≤ acc.length + l.length
  | n, [], acc, t, r, hn, h => by simp [unqR] at h
  | 0, c :: l, acc, t, r, hn, h => by simp at hn
  | n + 1, c :: l, acc, t, r, hn, h => by
    simp only [List.length_cons] at hn
    rw [unqR_cons] at h
    split at h
    · injection h with h; injection h with h1 h2
      subst h1 h2
      exact ⟨List.suffix_cons _ _, by simp, by simp; omega⟩
    split at h
    · cases h
    split at h
    · cases l with
      | nil => cases h
      | cons d l' =>
        simp only [List.length_cons] at hn
        have key : ∀ x : UInt8, unqR l' (acc ++ [x]) = some (t, r) → r <:+ c :: d :: l' ∧ r.length < (c :: d :: l').length ∧ t.length + r.length + 1 ≤ acc.length + (c :: d :: l').length := fun x hx => by
          obtain ⟨h1, h2, h3⟩ := unqR_suf n l' _ t r (by omega) hx
          simp only [List.length_append, List.length_cons, List.length_nil] at h3 ⊢
          exact ⟨h1.trans ((List.suffix_cons d l').trans (List.suffix_cons c _)), by omega, by omega⟩
        dsimp only at h
        split at h
        · exact key _ h
        split at h
        · exact key _ h
        split at h
        · exact key _ h
        · cases h
    · obtain ⟨h1, h2, h3⟩ := unqR_suf n l _ t r (by omega) h
      simp only [List.length_append, List.length_cons, List.length_nil] at h3 ⊢
      exact ⟨h1.trans (List.suffix_cons c l), by omega, by omega⟩
theorem textR_suf {s t r : List UInt8} (h : qtxR s = some (t, r)) : r <:+ s ∧ r.length < s.length ∧ t.length + r.length + 2 ≤ s.length := by
  cases s with
  | nil => cases h
  | cons c l =>
    by_cases hc : c.toNat = 34
    · rw [qtxR, if_pos hc] at h
      obtain ⟨h1, h2, h3⟩ := unqR_suf l.length l [] t r (Nat.le_refl _) h
      simp only [List.length_nil, List.length_cons] at h3 ⊢
      exact ⟨h1.trans (List.suffix_cons c l), by omega, by omega⟩
    · rw [qtxR, if_neg hc] at h
      cases h
theorem drop_at {l : List UInt8} {i : Nat} {c : UInt8} (h : l[i]? = some c) : l.drop i = c :: l.drop (i + 1) := by
  obtain ⟨hi, rfl⟩ := List.getElem?_eq_some_iff.1 h
  exact List.drop_eq_getElem_cons hi
theorem unq_out {l acc : List UInt8} {i : Nat} (h : l.length ≤ i) : unqR (l.drop i) acc = none := by
  rw [List.drop_eq_nil_of_le h, unqR]
theorem unq_mark {l acc : List UInt8} {i : Nat} {c : UInt8} (h : l[i]? = some c) (hc : c.toNat = 34) : unqR (l.drop i) acc = some (acc, l.drop (i + 1)) := by
  rw [drop_at h, unqR_cons, if_pos hc]
theorem unq_tab {l acc : List UInt8} {i : Nat} {c : UInt8} (h : l[i]? = some c) (hc : c.toNat = 9) : unqR (l.drop i) acc = none := by
  rw [drop_at h, unqR_cons, if_neg (by omega), if_pos hc]
theorem unq_one {l acc : List UInt8} {i : Nat} {c : UInt8} (h : l[i]? = some c) (h1 : c.toNat ≠ 34) (h2 : c.toNat ≠ 9) (h3 : c.toNat ≠ 92) : unqR (l.drop i) acc = unqR (l.drop (i + 1)) (acc ++ [c]) := by
  rw [drop_at h, unqR_cons, if_neg h1, if_neg h2, if_neg h3]
theorem unq_esc_out {l acc : List UInt8} {i : Nat} {c : UInt8} (h : l[i]? = some c) (hc : c.toNat = 92) (ho : l.length ≤ i + 1) : unqR (l.drop i) acc = none := by
  rw [drop_at h, unqR_cons, if_neg (by omega), if_neg (by omega), if_pos hc, List.drop_eq_nil_of_le ho]
theorem unq_esc_at {l acc : List UInt8} {i : Nat} {c d : UInt8} (h : l[i]? = some c) (hc : c.toNat = 92) (hd : l[i + 1]? = some d) : unqR (l.drop i) acc =
    if d.toNat = 110 then unqR (l.drop (i + 2)) (acc ++ [10]) else if d.toNat = 116 then unqR (l.drop (i + 2)) (acc ++ [9]) else if d.toNat = 34 ∨ d.toNat = 92 then unqR (l.drop (i + 2)) (acc ++ [d]) else none := by
  rw [drop_at h, unqR_cons, if_neg (by omega), if_neg (by omega), if_pos hc, drop_at hd]
/-- one attribute at the front: a blank, its name, =, its value -/
def at1R (s : List UInt8) : Option (At × List UInt8) :=
  match qtxR (s.drop 1) with
  | none => none
  | some (n, r) => if r.take 1 = [61] then (match qtxR (r.drop 1) with | none => none | some (v, r2) => some (⟨n, v⟩, r2)) else none
theorem at1R_suf {s r : List UInt8} {a : At} (h : at1R s = some (a, r)) : r <:+ s ∧ r.length < s.length ∧ a.n.length + a.v.length + r.length + 4 ≤ s.length := by
  unfold at1R at h
  cases h1 : qtxR (s.drop 1) with
  | none => rw [h1] at h; cases h
  | some x =>
    obtain ⟨n, r1⟩ := x
    rw [h1] at h
    dsimp only at h
    split at h
    · cases h2 : qtxR (r1.drop 1) with
      | none => rw [h2] at h; cases h
      | some y =>
        obtain ⟨v, r2⟩ := y
        rw [h2] at h
        injection h with h; injection h with h3 h4
        subst h3 h4
        obtain ⟨a1, a2, a3⟩ := textR_suf h1
        obtain ⟨b1, b2, b3⟩ := textR_suf h2
        rw [List.length_drop] at a2 a3 b2 b3
        exact ⟨b1.trans ((List.drop_suffix 1 _).trans (a1.trans (List.drop_suffix 1 _))), by omega, by dsimp only; omega⟩
    · cases h
/-- attributes at the front, as many as there are -/
def atsR (s : List UInt8) (acc : List At) : Option (List At × List UInt8) :=
  if s.take 2 = [32, 34] then
    match h : at1R s with
    | none => none
    | some (a, r) =>
      have := (at1R_suf h).2.1
      atsR r (acc ++ [a])
  else some (acc, s)
termination_by s.length
theorem atsR_yes {s : List UInt8} {acc : List At} {a : At} {r : List UInt8} (h : s.take 2 = [32, 34]) (h1 : at1R s = some (a, r)) : atsR s acc = atsR r (acc ++ [a]) := by
  rw [atsR, if_pos h]
  split
  · rename_i h2; rw [h1] at h2; cases h2
  · rename_i a' r' h2; rw [h1] at h2; injection h2 with h2; injection h2 with h3 h4; subst h3 h4; rfl
theorem atsR_bad {s : List UInt8} {acc : List At} (h : s.take 2 = [32, 34]) (h1 : at1R s = none) : atsR s acc = none := by
  rw [atsR, if_pos h]
  split
  · rfl
  · rename_i a' r' h2; rw [h1] at h2; cases h2
theorem atsR_end {s : List UInt8} {acc : List At} (h : ¬ s.take 2 = [32, 34]) : atsR s acc = some (acc, s) := by rw [atsR, if_neg h]
/-- the name or the text that a kind has -/
def headT (k : Nat) (s : List UInt8) : Option (List UInt8 × List UInt8 × List UInt8) :=
  if k = 4 then some ([], [], s)
  else if s.take 1 = [32] then
    match qtxR (s.drop 1) with
    | none => none
    | some (x, r) => if k = 1 ∨ k = 2 then some (x, [], r) else some ([], x, r)
  else none
/-- behind the kind's word -/
def tokR (k : Nat) (s : List UInt8) : Option Tok :=
  match headT k s with
  | none => none
  | some (nm, tx, r) =>
    match atsR r [] with
    | none => none
    | some (es, r2) => if (r2 = [] ∨ r2 = [32, 47]) ∧ mayR ⟨k, nm, tx, es, decide (r2 = [32, 47]), 0, 0, 0⟩ = true then some ⟨k, nm, tx, es, decide (r2 = [32, 47]), 0, 0, 0⟩ else none
def wordsL : List (List UInt8) := [wText, wStart, wEnd, wComment, wDoctype]
def readF : Nat → List (List UInt8) → List UInt8 → Option Tok
  | _, [], _ => none
  | k, x :: ws, s => if x.isPrefixOf s = true then tokR k (s.drop x.length) else readF (k + 1) ws s
/-- a line, read -/
def readR (s : List UInt8) : Option Tok := readF 0 wordsL s
/-! ## lines -/
def linesG : List UInt8 → List UInt8 → List (List UInt8)
  | [], cur => if cur = [] then [] else [cur]
  | c :: l, cur => if c.toNat = 10 then cur :: linesG l [] else linesG l (cur ++ [c])
/-- a text's lines; a last one may lack its end -/
def linesR (s : List UInt8) : List (List UInt8) := linesG s []
/-- the tokens of lines, or the number of the first that is none -/
def parseF : Nat → List (List UInt8) → List Tok → List Tok × Nat
  | _, [], acc => (acc, 0)
  | n, x :: ls, acc => match readR x with | none => ([], n) | some t => parseF (n + 1) ls (acc ++ [t])
def parseR (s : List UInt8) : List Tok × Nat := parseF 1 (linesR s) []
end Go.Proofs.YthgbpgjpnaanlaaGreatDoor

/-
  Lines of tokens, read back: plain laws.
-/
set_option linter.unusedSimpArgs false
set_option linter.unusedVariables false
set_option linter.unnecessarySimpa false
namespace Go.Proofs.YthgbpgjpnaanlaaGreatDoor
open Go Go.Sv Go.RowKit

theorem unq_esc : ∀ (s r acc : List UInt8), unqR (s.flatMap esc ++ 34 :: r) acc = some (acc ++ s, r)
  | [], r, acc => by
    rw [List.flatMap_nil, List.nil_append, List.append_nil, unqR_cons, if_pos (by decide)]
  | c :: s, r, acc => by
    have ih := fun acc => unq_esc s r acc
    rw [List.flatMap_cons, List.append_assoc]
    unfold esc
    split
    · rename_i h; subst h
      change unqR (92 :: 110 :: (s.flatMap esc ++ 34 :: r)) acc = _
      rw [unqR_cons, if_neg (by decide), if_neg (by decide), if_pos (by decide)]
      dsimp only
      rw [if_pos (by decide), ih, List.append_assoc]; rfl
    split
    · rename_i h; subst h
      change unqR (92 :: 116 :: (s.flatMap esc ++ 34 :: r)) acc = _
      rw [unqR_cons, if_neg (by decide), if_neg (by decide), if_pos (by decide)]
      dsimp only
      rw [if_neg (by decide), if_pos (by decide), ih, List.append_assoc]; rfl
    split
    · rename_i h; subst h
      change unqR (92 :: 34 :: (s.flatMap esc ++ 34 :: r)) acc = _
      rw [unqR_cons, if_neg (by decide), if_neg (by decide), if_pos (by decide)]
      dsimp only
      rw [if_neg (by decide), if_neg (by decide), if_pos (by decide), ih, List.append_assoc]; rfl
    split
    · rename_i h; subst h
      change unqR (92 :: 92 :: (s.flatMap esc ++ 34 :: r)) acc = _
      rw [unqR_cons, if_neg (by decide), if_neg (by decide), if_pos (by decide)]
      dsimp only
      rw [if_neg (by decide), if_neg (by decide), if_pos (by decide), ih, List.append_assoc]; rfl
    · rename_i h10 h9 h34 h92
      have key : ∀ n : UInt8, ¬ c = n → ¬ c.toNat = n.toNat := fun n h h' => h (UInt8.toNat_inj.1 h')
      change unqR (c :: (s.flatMap esc ++ 34 :: r)) acc = _
      rw [unqR_cons, if_neg (show ¬ c.toNat = 34 from key 34 h34), if_neg (show ¬ c.toNat = 9 from key 9 h9), if_neg (show ¬ c.toNat = 92 from key 92 h92), ih, List.append_assoc]; rfl
theorem text_quote (s r : List UInt8) : qtxR (quoteR s ++ r) = some (s, r) := by
  have e : quoteR s ++ r = 34 :: (s.flatMap esc ++ 34 :: r) := by unfold quoteR; simp
  rw [e, qtxR, if_pos (by decide), unq_esc]
  rfl
theorem at1_line (x : At) (r : List UInt8) : at1R (atLine x ++ r) = some (x, r) := by
  have e : atLine x ++ r = 32 :: (quoteR x.n ++ 61 :: (quoteR x.v ++ r)) := by unfold atLine; simp
  rw [e]
  unfold at1R
  rw [List.drop_succ_cons, List.drop_zero, text_quote]
  dsimp only
  rw [if_pos (show List.take 1 (61 :: (quoteR x.v ++ r)) = [61] from rfl), List.drop_succ_cons, List.drop_zero, text_quote]
theorem ats_line : ∀ (es : List At) (acc : List At) (tl : List UInt8), ¬ tl.take 2 = [32, 34] → atsR (es.flatMap atLine ++ tl) acc = some (acc ++ es, tl)
  | [], acc, tl, h => by rw [List.flatMap_nil, List.nil_append, List.append_nil, atsR_end h]
  | x :: es, acc, tl, h => by
    rw [List.flatMap_cons, List.append_assoc]
    have h2 : (atLine x ++ (es.flatMap atLine ++ tl)).take 2 = [32, 34] := by
      unfold atLine quoteR
      rfl
    rw [atsR_yes h2 (at1_line x _), ats_line es _ tl h, List.append_assoc]
    rfl
def zeroT (t : Tok) : Tok := { t with a := 0, b := 0, d := 0 }
theorem may_zero (t : Tok) : mayR (zeroT t) = mayR t := rfl
theorem tail_no (b : Bool) : ¬ (if b = true then [32, 47] else ([] : List UInt8)).take 2 = [32, 34] := by cases b <;> decide
theorem tail_self (b : Bool) : decide ((if b = true then [32, 47] else ([] : List UInt8)) = [32, 47]) = b := by cases b <;> rfl
theorem tok_line {t : Tok} {k : Nat} (h : mayR t = true) (hk : t.kind = k) (nm tx : List UInt8) (hn : t.name = nm) (ht : t.text = tx) {s : List UInt8} (hh : headT k s = some (nm, tx, t.attrs.flatMap atLine ++ (if t.self then [32, 47] else []))) : tokR k s = some (zeroT t) := by
  subst hn ht
  unfold tokR
  rw [hh]
  dsimp only
  rw [ats_line t.attrs [] _ (tail_no t.self)]
  dsimp only
  rw [tail_self, List.nil_append]
  have e : (⟨k, t.name, t.text, t.attrs, t.self, 0, 0, 0⟩ : Tok) = zeroT t := by unfold zeroT; rw [hk]
  rw [e, may_zero]
  refine if_pos ⟨?_, h⟩
  cases t.self
  · exact .inl rfl
  · exact .inr rfl
theorem read_line {t : Tok} (h : mayR t = true) : readR (lineR t) = some (zeroT t) := by
  have hf := (may_facts t h).kind
  have hkk : t.kind = 0 ∨ t.kind = 1 ∨ t.kind = 2 ∨ t.kind = 3 ∨ t.kind = 4 := by omega
  have hnn : t.kind = 0 ∨ t.kind = 3 ∨ t.kind = 4 → t.name = [] := fun hk => by
    unfold mayR bareR at h
    rcases hk with hk | hk | hk <;> rw [hk] at h <;> simp at h <;> simp [h]
  have htt : t.kind = 1 ∨ t.kind = 2 ∨ t.kind = 4 → t.text = [] := fun hk => by
    unfold mayR bareR at h
    rcases hk with hk | hk | hk <;> rw [hk] at h <;> simp at h <;> simp [h]
  have e : lineR t = wordR t.kind ++ ((if t.kind = 1 ∨ t.kind = 2 then 32 :: quoteR t.name else if t.kind = 0 ∨ t.kind = 3 then 32 :: quoteR t.text else []) ++ (t.attrs.flatMap atLine ++ (if t.self then [32, 47] else []))) := by
    unfold lineR headR; simp [List.append_assoc]
  rw [e]
  generalize hT : t.attrs.flatMap atLine ++ (if t.self then [32, 47] else []) = T
  have one : ∀ (k : Nat) (x : List UInt8), (k = 1 ∨ k = 2 ∨ k = 0 ∨ k = 3) → headT k (32 :: quoteR x ++ T) = if k = 1 ∨ k = 2 then some (x, [], T) else some ([], x, T) := by
    intro k x hk
    unfold headT
    rw [if_neg (by omega), if_pos (by rfl), show (32 :: quoteR x ++ T).drop 1 = quoteR x ++ T from rfl, text_quote]
  rcases hkk with hk | hk | hk | hk | hk
  · have hw : wordR t.kind = wText := by rw [hk]; rfl
    rw [hw, hk, if_neg (by decide), if_pos (by decide)]
    unfold readR wordsL readF
    rw [if_pos (by rfl)]
    refine tok_line h hk [] t.text (hnn (.inl hk)) rfl ?_
    rw [hT]
    have := one 0 t.text (by simp)
    rw [if_neg (by decide)] at this
    exact this
  · have hw : wordR t.kind = wStart := by rw [hk]; rfl
    rw [hw, hk, if_pos (by decide)]
    unfold readR wordsL readF readF
    rw [if_neg (by intro hh; cases hh), if_pos (by rfl)]
    refine tok_line h hk t.name [] rfl (htt (.inl hk)) ?_
    rw [hT]
    have := one 1 t.name (by simp)
    rw [if_pos (by decide)] at this
    exact this
  · have hw : wordR t.kind = wEnd := by rw [hk]; rfl
    rw [hw, hk, if_pos (by decide)]
    unfold readR wordsL readF readF readF
    rw [if_neg (by intro hh; cases hh), if_neg (by intro hh; cases hh), if_pos (by rfl)]
    refine tok_line h hk t.name [] rfl (htt (.inr (.inl hk))) ?_
    rw [hT]
    have := one 2 t.name (by simp)
    rw [if_pos (by decide)] at this
    exact this
  · have hw : wordR t.kind = wComment := by rw [hk]; rfl
    rw [hw, hk, if_neg (by decide), if_pos (by decide)]
    unfold readR wordsL readF readF readF readF
    rw [if_neg (by intro hh; cases hh), if_neg (by intro hh; cases hh), if_neg (by intro hh; cases hh), if_pos (by rfl)]
    refine tok_line h hk [] t.text (hnn (.inr (.inl hk))) rfl ?_
    rw [hT]
    have := one 3 t.text (by simp)
    rw [if_neg (by decide)] at this
    exact this
  · have hw : wordR t.kind = wDoctype := by rw [hk]; rfl
    rw [hw, hk, if_neg (by decide), if_neg (by decide), List.nil_append]
    unfold readR wordsL readF readF readF readF readF
    rw [if_neg (by intro hh; cases hh), if_neg (by intro hh; cases hh), if_neg (by intro hh; cases hh), if_neg (by intro hh; cases hh), if_pos (by rfl)]
    refine tok_line h hk [] [] (hnn (.inr (.inr hk))) (htt (.inr (.inr hk))) ?_
    rw [hT]
    rfl
/-! ## lines -/
theorem esc_no (c : UInt8) : ∀ x ∈ esc c, x.toNat ≠ 10 := by
  intro x hx
  unfold esc at hx
  split at hx
  · simp only [List.mem_cons, List.not_mem_nil, or_false] at hx; rcases hx with rfl | rfl <;> decide
  split at hx
  · simp only [List.mem_cons, List.not_mem_nil, or_false] at hx; rcases hx with rfl | rfl <;> decide
  split at hx
  · simp only [List.mem_cons, List.not_mem_nil, or_false] at hx; rcases hx with rfl | rfl <;> decide
  split at hx
  · simp only [List.mem_cons, List.not_mem_nil, or_false] at hx; rcases hx with rfl | rfl <;> decide
  · rename_i h10 _ _ _
    rw [List.mem_singleton.1 hx]
    exact fun h => h10 (UInt8.toNat_inj.1 h)
theorem quote_no (s : List UInt8) : ∀ x ∈ quoteR s, x.toNat ≠ 10 := by
  intro x hx
  unfold quoteR at hx
  simp only [List.mem_cons, List.mem_append, List.mem_flatMap, List.not_mem_nil, or_false] at hx
  rcases hx with (rfl | ⟨c, _, hx⟩) | rfl
  · decide
  · exact esc_no c x hx
  · decide
theorem line_no (t : Tok) : ∀ x ∈ lineR t, x.toNat ≠ 10 := by
  intro x hx
  unfold lineR headR at hx
  simp only [List.mem_append] at hx
  rcases hx with ((hx | hx) | hx) | hx
  · have key : ∀ w : List UInt8, (w.all fun x => !decide (x.toNat = 10)) = true → x ∈ w → x.toNat ≠ 10 := fun w hw hx => by
      have := List.all_eq_true.1 hw x hx; simpa using this
    unfold wordR at hx
    repeat' split at hx
    all_goals exact key _ (by decide) hx
  · repeat' split at hx
    · rcases List.mem_cons.1 hx with rfl | hx
      · decide
      · exact quote_no _ x hx
    · rcases List.mem_cons.1 hx with rfl | hx
      · decide
      · exact quote_no _ x hx
    · cases hx
  · obtain ⟨a, _, hx⟩ := List.mem_flatMap.1 hx
    unfold atLine at hx
    simp only [List.mem_cons, List.mem_append, List.not_mem_nil, or_false] at hx
    rcases hx with ((rfl | hx) | rfl) | hx
    · decide
    · exact quote_no _ x hx
    · decide
    · exact quote_no _ x hx
  · split at hx
    · simp only [List.mem_cons, List.not_mem_nil, or_false] at hx; rcases hx with rfl | rfl <;> decide
    · cases hx
end Go.Proofs.YthgbpgjpnaanlaaGreatDoor

/-
  Events as lines, and read back: plain laws.
-/
set_option linter.unusedSimpArgs false
set_option linter.unusedVariables false
set_option linter.unnecessarySimpa false
namespace Go.Proofs.YthgbpgjpnaanlaaGreatDoor
open Go Go.Sv Go.RowKit

/-- a line's first word, and that of the token that is printed like it -/
def ew0 (k : Int) : List UInt8 := if k = 0 then [116, 101, 120, 116] else if k = 1 then [111, 112, 101, 110] else if k = 2 then [99, 108, 111, 115, 101] else [118, 111, 105, 100]
def ew1 (k : Int) : List UInt8 := if k = 0 then wText else if k = 2 then wEnd else wStart
def evTok (e : Ev) : Tok := if e.kind = 0 then ⟨0, [], e.text, [], false, 0, 0, 0⟩ else if e.kind = 2 then e.close else e.start
theorem evR_kind {e : Ev} (h : evR e = true) : e.kind = 0 ∨ e.kind = 1 ∨ e.kind = 2 ∨ e.kind = 3 := by
  unfold evR at h
  split at h
  · left; assumption
  split at h
  · right; left; assumption
  split at h
  · right; right; right; assumption
  split at h
  · right; right; left; assumption
  · cases h
theorem evTok_may {e : Ev} (h : evR e = true) : mayR (evTok e) = true := by
  have hk := evR_kind h
  unfold evR at h
  unfold evTok
  rcases hk with hk | hk | hk | hk
  · rw [if_pos hk] at h ⊢
    simp only [Bool.and_eq_true] at h
    unfold mayR bareR
    simp [h.1.1.1, h.1.1.2]
  · rw [if_neg (by omega), if_pos hk] at h
    rw [if_neg (by omega), if_neg (by omega)]
    simp only [Bool.and_eq_true] at h
    exact h.1.2
  · rw [if_neg (by omega), if_neg (by omega), if_neg (by omega), if_pos hk] at h
    rw [if_neg (by omega), if_pos hk]
    simp only [Bool.and_eq_true] at h
    exact h.2
  · rw [if_neg (by omega), if_neg (by omega), if_pos hk] at h
    rw [if_neg (by omega), if_neg (by omega)]
    simp only [Bool.and_eq_true] at h
    exact h.1.2
theorem evTok_word {e : Ev} (h : evR e = true) : wordR (evTok e).kind = ew1 e.kind := by
  have hk := evR_kind h
  unfold evTok ew1
  rcases hk with hk | hk | hk | hk <;> rw [hk] <;> rfl
theorem line_blank {t : Tok} (h : t.kind = 0 ∨ t.kind = 1 ∨ t.kind = 2 ∨ t.kind = 3) : ∃ X, lineR t = wordR t.kind ++ 32 :: X := by
  unfold lineR headR
  by_cases h1 : t.kind = 1 ∨ t.kind = 2
  · rw [if_pos h1]
    exact ⟨quoteR t.name ++ (t.attrs.flatMap atLine ++ (if t.self then [32, 47] else [])), by simp⟩
  · rw [if_neg h1, if_pos (by omega)]
    exact ⟨quoteR t.text ++ (t.attrs.flatMap atLine ++ (if t.self then [32, 47] else [])), by simp⟩
/-- an event that may be, as a line -/
def evLine (e : Ev) : List UInt8 := ew0 e.kind ++ (lineR (evTok e)).drop (ew1 e.kind).length
theorem evTok_kind {e : Ev} (h : evR e = true) : (evTok e).kind = 0 ∨ (evTok e).kind = 1 ∨ (evTok e).kind = 2 ∨ (evTok e).kind = 3 := by
  unfold evTok
  rcases evR_kind h with hk | hk | hk | hk <;> rw [hk] <;> simp [Ev.start, Ev.close]
theorem evLine_eq {e : Ev} (h : evR e = true) : ∃ X, evLine e = ew0 e.kind ++ 32 :: X ∧ lineR (evTok e) = ew1 e.kind ++ 32 :: X := by
  obtain ⟨X, hX⟩ := line_blank (evTok_kind h)
  rw [evTok_word h] at hX
  refine ⟨X, ?_, hX⟩
  unfold evLine
  rw [hX, List.drop_left]
/-- what lies ahead of the first blank, and behind it -/
def cutB : List UInt8 → List UInt8 × List UInt8
  | [] => ([], [])
  | c :: l => if c.toNat = 32 then ([], l) else (c :: (cutB l).1, (cutB l).2)
theorem cutB_app : ∀ (x r : List UInt8), (∀ c ∈ x, c.toNat ≠ 32) → cutB (x ++ 32 :: r) = (x, r)
  | [], r, _ => by rw [List.nil_append, cutB, if_pos (by decide)]
  | c :: x, r, h => by rw [List.cons_append, cutB, if_neg (h c (by simp)), cutB_app x r fun d hd => h d (List.mem_cons_of_mem _ hd)]
def evWord (w : List UInt8) : Option Nat := (List.range 4).find? fun k => decide (ew0 k = w)
/-- the event of a line -/
def evRead (s : List UInt8) : Option Ev :=
  match evWord (cutB s).1 with
  | none => none
  | some k =>
    match parseR (ew1 k ++ 32 :: (cutB s).2) with
    | ([t], 0) => if (t.self = false ∧ evR ⟨k, t.name, t.text, t.attrs⟩ = true) ∧ (cutB s).2.all (fun c => !decide (c.toNat = 10)) = true then some ⟨k, t.name, t.text, t.attrs⟩ else none
    | _ => none
theorem linesR_one {l : List UInt8} (h : ∀ c ∈ l, c.toNat ≠ 10) (hne : l ≠ []) : linesR l = [l] := by
  have key : ∀ (l cur : List UInt8), (∀ c ∈ l, c.toNat ≠ 10) → linesG l cur = if cur ++ l = [] then [] else [cur ++ l] := by
    intro l
    induction l with
    | nil => intro cur _; simp [linesG]
    | cons c l ih =>
      intro cur h
      rw [linesG, if_neg (h c (by simp)), ih _ fun d hd => h d (List.mem_cons_of_mem _ hd)]
      simp
  unfold linesR
  rw [key l [] h, List.nil_append, if_neg hne]
theorem evTok_zero (e : Ev) : zeroT (evTok e) = evTok e := by
  unfold evTok
  split
  · rfl
  split <;> rfl
theorem evTok_back {e : Ev} {k : Nat} (h : evR e = true) (hk : e.kind = k) : (⟨k, (evTok e).name, (evTok e).text, (evTok e).attrs⟩ : Ev) = e ∧ (evTok e).self = false := by
  obtain ⟨ek, en, et, ea⟩ := e
  have hkk := evR_kind h
  unfold evR at h
  dsimp only at hk hkk h
  subst hk
  unfold evTok
  rcases hkk with hk | hk | hk | hk
  · rw [if_pos hk] at h
    simp only [Bool.and_eq_true, decide_eq_true_eq] at h
    obtain ⟨⟨⟨_, _⟩, h3⟩, h4⟩ := h
    have h5 := List.eq_nil_of_length_eq_zero h4
    dsimp only
    rw [if_pos hk, h3, h5]
    exact ⟨rfl, rfl⟩
  · rw [if_neg (by omega), if_pos hk] at h
    simp only [Bool.and_eq_true, decide_eq_true_eq] at h
    dsimp only
    rw [if_neg (by omega), if_neg (by omega), h.1.1]
    exact ⟨rfl, rfl⟩
  · rw [if_neg (by omega), if_neg (by omega), if_neg (by omega), if_pos hk] at h
    simp only [Bool.and_eq_true, decide_eq_true_eq] at h
    have h5 := List.eq_nil_of_length_eq_zero h.1.2
    dsimp only
    rw [if_neg (by omega), if_pos hk, h.1.1, h5]
    exact ⟨rfl, rfl⟩
  · rw [if_neg (by omega), if_neg (by omega), if_pos hk] at h
    simp only [Bool.and_eq_true, decide_eq_true_eq] at h
    dsimp only
    rw [if_neg (by omega), if_neg (by omega), h.1.1]
    exact ⟨rfl, rfl⟩
theorem parse_one {t : Tok} (h : mayR t = true) (hne : lineR t ≠ []) : parseR (lineR t) = ([zeroT t], 0) := by
  unfold parseR
  rw [linesR_one (line_no t) hne, parseF, read_line h]
  rfl
theorem evRead_back {e : Ev} (h : evR e = true) : evRead (evLine e) = some e := by
  obtain ⟨X, h1, h2⟩ := evLine_eq h
  obtain ⟨k, hk, hk4⟩ : ∃ k : Nat, e.kind = (k : Int) ∧ k < 4 := by
    rcases evR_kind h with hk | hk | hk | hk
    · exact ⟨0, hk, by decide⟩
    · exact ⟨1, hk, by decide⟩
    · exact ⟨2, hk, by decide⟩
    · exact ⟨3, hk, by decide⟩
  have hno : ∀ c ∈ ew0 e.kind, c.toNat ≠ 32 := by
    have key : ∀ w : List UInt8, (w.all fun x => !decide (x.toNat = 32)) = true → ∀ x ∈ w, x.toNat ≠ 32 := fun w hw x hx => by
      have := List.all_eq_true.1 hw x hx; simpa using this
    rw [hk]
    match k, hk4 with
    | 0, _ => exact key _ rfl
    | 1, _ => exact key _ rfl
    | 2, _ => exact key _ rfl
    | 3, _ => exact key _ rfl
  have hw : evWord (ew0 e.kind) = some k := by
    rw [hk]
    match k, hk4 with
    | 0, _ => rfl
    | 1, _ => rfl
    | 2, _ => rfl
    | 3, _ => rfl
  have hX : X.all (fun c => !decide (c.toNat = 10)) = true := by
    rw [List.all_eq_true]
    intro c hc
    have := line_no (evTok e) c (by rw [h2]; simp [hc])
    simpa using this
  obtain ⟨hb1, hb2⟩ := evTok_back h hk
  unfold evRead
  rw [h1, cutB_app _ _ hno]
  dsimp only
  rw [hw]
  show (match parseR (ew1 (k : Int) ++ 32 :: X) with
    | ([t], 0) => if (t.self = false ∧ evR ⟨k, t.name, t.text, t.attrs⟩ = true) ∧ X.all (fun c => !decide (c.toNat = 10)) = true then some (⟨k, t.name, t.text, t.attrs⟩ : Ev) else none
    | _ => none) = some e
  have h3 : ew1 (k : Int) ++ 32 :: X = lineR (evTok e) := by rw [← hk]; exact h2.symm
  rw [h3, parse_one (evTok_may h) (by rw [h2]; simp), evTok_zero]
  show (if ((evTok e).self = false ∧ evR ⟨k, (evTok e).name, (evTok e).text, (evTok e).attrs⟩ = true) ∧ X.all (fun c => !decide (c.toNat = 10)) = true then some (⟨k, (evTok e).name, (evTok e).text, (evTok e).attrs⟩ : Ev) else none) = some e
  rw [hb1, if_pos ⟨⟨hb2, h⟩, hX⟩]
end Go.Proofs.YthgbpgjpnaanlaaGreatDoor

/-
  strings.Cut at a line's end; a text's lines, cut one by one.
-/
set_option linter.unusedSimpArgs false
set_option linter.unusedVariables false
set_option linter.unnecessarySimpa false
namespace Go.Proofs.YthgbpgjpnaanlaaGreatDoor
open Go Go.Sv Go.RowKit

/-- what lies ahead of the first line's end, behind it, and whether there is one -/
def cutN : List UInt8 → List UInt8 × List UInt8 × Bool
  | [] => ([], [], false)
  | c :: l => if c.toNat = 10 then ([], l, true) else (c :: (cutN l).1, (cutN l).2)
theorem cutT_len : ∀ l : List UInt8, (cutN l).1.length ≤ l.length ∧ (cutN l).2.1.length ≤ l.length ∧ (l ≠ [] → (cutN l).2.1.length < l.length)
  | [] => ⟨Nat.le_refl _, Nat.le_refl _, fun h => absurd rfl h⟩
  | c :: l => by
    obtain ⟨h1, h2, _⟩ := cutT_len l
    unfold cutN
    split
    · exact ⟨Nat.zero_le _, by simp, fun _ => by simp⟩
    · dsimp only
      simp only [List.length_cons]
      exact ⟨by omega, by omega, fun _ => by omega⟩
theorem cutT_no : ∀ l : List UInt8, ∀ x ∈ (cutN l).1, x.toNat ≠ 10
  | [], x, hx => by cases hx
  | c :: l, x, hx => by
    unfold cutN at hx
    split at hx
    · cases hx
    · rename_i hc
      rcases List.mem_cons.1 hx with rfl | hx
      · exact hc
      · exact cutT_no l x hx
theorem index_cut : ∀ l : List UInt8, (Lib.indexByte l 10 = -1 ∧ cutN l = (l, [], false)) ∨ ∃ i : Nat, i < l.length ∧ Lib.indexByte l 10 = i ∧ cutN l = (l.take i, l.drop (i + 1), true)
  | [] => .inl ⟨rfl, rfl⟩
  | c :: l => by
    unfold Lib.indexByte cutN
    by_cases hc : c.toNat = 10
    · have : c = 10 := UInt8.toNat_inj.1 hc
      subst this
      exact .inr ⟨0, by simp, rfl, rfl⟩
    · have hne : (c == 10) = false := by
        rw [beq_eq_false_iff_ne]
        intro h
        subst h
        exact hc rfl
      rw [hne, if_neg hc]
      rcases index_cut l with ⟨h1, h2⟩ | ⟨i, h0, h1, h2⟩
      · left
        rw [h1, h2]
        exact ⟨rfl, rfl⟩
      · right
        refine ⟨i + 1, by simp; omega, ?_, ?_⟩
        · have : (Lib.indexByte l 10 == -1) = false := by rw [h1, beq_eq_false_iff_ne]; omega
          rw [this, h1]
          simp
        · rw [h2]; rfl
theorem linesG_cut : ∀ (l cur : List UInt8), linesG l cur = if (cutN l).2.2 = true then (cur ++ (cutN l).1) :: linesG (cutN l).2.1 [] else if cur ++ l = [] then [] else [cur ++ l]
  | [], cur => by simp [linesG, cutN]
  | c :: l, cur => by
    rw [show linesG (c :: l) cur = if c.toNat = 10 then cur :: linesG l [] else linesG l (cur ++ [c]) from rfl, show cutN (c :: l) = if c.toNat = 10 then ([], l, true) else (c :: (cutN l).1, (cutN l).2) from rfl]
    by_cases hc : c.toNat = 10
    · rw [if_pos hc, if_pos hc, if_pos rfl, List.append_nil]
    · rw [if_neg hc, if_neg hc, linesG_cut l]
      dsimp only
      simp only [List.append_assoc, List.cons_append, List.nil_append]
/-- a text's lines: the first, and those behind it -/
theorem lines_cut {s : List UInt8} (h : s ≠ []) : linesR s = (cutN s).1 :: linesR (cutN s).2.1 := by
  unfold linesR
  rw [linesG_cut s []]
  split
  · rfl
  · rename_i hf
    rcases index_cut s with ⟨_, h2⟩ | ⟨i, _, _, h2⟩
    · rw [h2, List.nil_append, if_neg h]
      rfl
    · rw [h2] at hf; exact absurd rfl hf
def cutV (s : List UInt8) : Value := .tuple #[str (cutN s).1, str (cutN s).2.1, .bool (cutN s).2.2]
theorem idx10_ok (s : List UInt8) (w : World) : PureC Tryz.prog 88 #[str s, str [10]] w (.int .i64 (Lib.indexByte s 10)) := by
  refine Calls.mono (Tryz.stringslite_Index_one ⟨s.toArray⟩ 10 w) ?_
  rintro e w' ⟨rfl, rfl⟩
  exact ⟨_, rfl, rfl, Frm.refl _⟩
set_option maxHeartbeats 1000000 in
theorem litCut_ok (s : List UInt8) (hb : s.length ≤ 16777216) (w : World) : PureC Tryz.prog 71 #[str s, str [10]] w (cutV s) := by
  have hix := fun w => idx10_ok s w
  unfold cutV
  refine enter (l := [str s, str [10]]) Tryz.func71 rfl Tryz.ntmps71 (by kernel_rfl) rfl ?_
  refine sgo ?_
  refine wlpure (hix _) fun w1 hf1 => ?_
  rcases index_cut s with ⟨h1, h2⟩ | ⟨i, hi, h1, h2⟩
  · rw [h1, h2]
    refine sgo ?_
    (first | refine fp1 (.inl rfl) rfl rfl ?_ | refine fp2 (.inl rfl) rfl rfl rfl ?_ | refine fp3 (.inl rfl) rfl rfl rfl rfl ?_ | refine fp0 (.inr rfl) rfl ?_ | refine fp0 (.inl rfl) rfl ?_ | refine fp1 (.inr rfl) rfl rfl ?_); refine ⟨?_, by (first | exact Frm.refl _ | assumption | exact Go.Sv.Sep.frm (by assumption) | (refine Frm.trans ?_ (by assumption); first | exact Frm.refl _ | assumption))⟩; (try simp only [realB, rv_true, Nat.reduceBEq, cond_true, cond_false, entG, real_lif, updGL])
    all_goals rfl
  · rw [h1, h2]
    refine sgo ?_
    refine wcyes ?_ (ht := by simp)
    refine sgo ?_
    refine wcdraw ?_
    refine qgo ?_
    have h10 : ([10] : List UInt8).length = 1 := rfl
    rw [h10]
    refine qgo ?_
    refine QL_nil ?_
    intro w2 hf2
    refine thn_normal ?_
    refine sgo ?_
    have e1 : ((i : Int) + ((1 : Nat) : Int)).toNat = i + 1 := by omega
    simp only [e1]
    have hf := hf1.trans hf2
    clear hf1 hf2
    (first | refine fp1 (.inl rfl) rfl rfl ?_ | refine fp2 (.inl rfl) rfl rfl rfl ?_ | refine fp3 (.inl rfl) rfl rfl rfl rfl ?_ | refine fp0 (.inr rfl) rfl ?_ | refine fp0 (.inl rfl) rfl ?_ | refine fp1 (.inr rfl) rfl rfl ?_); refine ⟨?_, by (first | exact Frm.refl _ | assumption | exact Go.Sv.Sep.frm (by assumption) | (refine Frm.trans ?_ (by assumption); first | exact Frm.refl _ | assumption))⟩; (try simp only [realB, rv_true, Nat.reduceBEq, cond_true, cond_false, entG, real_lif, updGL])
    all_goals rfl
theorem cut10_ok (s : List UInt8) (hb : s.length ≤ 16777216) (w : World) : PureC Tryz.prog 43 #[str s, str [10]] w (cutV s) := by
  have hix := fun w => litCut_ok s hb w
  unfold cutV at *
  refine enter (l := [str s, str [10]]) Tryz.func43 rfl Tryz.ntmps43 (by kernel_rfl) rfl ?_
  refine sgo ?_
  refine wlpure (hix _) fun w1 hf1 => ?_
  refine sgo ?_
  (first | refine fp1 (.inl rfl) rfl rfl ?_ | refine fp2 (.inl rfl) rfl rfl rfl ?_ | refine fp3 (.inl rfl) rfl rfl rfl rfl ?_ | refine fp0 (.inr rfl) rfl ?_ | refine fp0 (.inl rfl) rfl ?_ | refine fp1 (.inr rfl) rfl rfl ?_); refine ⟨?_, by (first | exact Frm.refl _ | assumption | exact Go.Sv.Sep.frm (by assumption) | (refine Frm.trans ?_ (by assumption); first | exact Frm.refl _ | assumption))⟩; (try simp only [realB, rv_true, Nat.reduceBEq, cond_true, cond_false, entG, real_lif, updGL])
  all_goals rfl
end Go.Proofs.YthgbpgjpnaanlaaGreatDoor

/-
  strings.Split at a byte, as a law of lists; a text's lines.
-/
set_option linter.unusedSimpArgs false
set_option linter.unusedVariables false
set_option linter.unnecessarySimpa false
namespace Go.Sv
open Go Go.RowKit
theorem idx_none {c : UInt8} : ∀ {l : List UInt8}, (∀ x ∈ l, x ≠ c) → Lib.indexByte l c = -1
  | [], _ => rfl
  | b :: l, h => by
    have ih := idx_none (l := l) fun x hx => h x (List.mem_cons_of_mem _ hx)
    have hb : (b == c) = false := beq_eq_false_iff_ne.2 (h b List.mem_cons_self)
    unfold Lib.indexByte
    rw [hb, ih]
    rfl
theorem idx_at {c : UInt8} : ∀ {x r : List UInt8}, (∀ y ∈ x, y ≠ c) → Lib.indexByte (x ++ c :: r) c = (x.length : Int)
  | [], r, _ => by
    show Lib.indexByte (c :: r) c = _
    unfold Lib.indexByte
    rw [beq_self_eq_true]
    rfl
  | b :: x, r, h => by
    have ih := idx_at (x := x) (r := r) fun y hy => h y (List.mem_cons_of_mem _ hy)
    have hb : (b == c) = false := beq_eq_false_iff_ne.2 (h b List.mem_cons_self)
    show Lib.indexByte (b :: (x ++ c :: r)) c = _
    unfold Lib.indexByte
    have hne : ((x.length : Int) == -1) = false := by rw [beq_eq_false_iff_ne]; omega
    rw [hb, ih, hne]
    simp
/-- the pieces of a text between bytes -/
def spR (s : List UInt8) (c : UInt8) : List (List UInt8) := (Lib.splitB ⟨#[c]⟩ 0 (Lib.countB ⟨s.toArray⟩ ⟨#[c]⟩) ⟨s.toArray⟩).map fun x => x.data.toList
theorem spR_eq (s : List UInt8) (c : UInt8) : spR s c = Lib.splitK [c] 0 (Lib.count s [c]) s := Lib.splitB_data ⟨#[c]⟩ 0 _ ⟨s.toArray⟩
theorem spR_none {s : List UInt8} {c : UInt8} (h : ∀ x ∈ s, x ≠ c) : spR s c = [s] := by
  have hi : Lib.index s [c] = -1 := (Lib.index_one s c).trans (idx_none h)
  rw [spR_eq, Lib.count_miss hi]
  rfl
theorem spR_at {x r : List UInt8} {c : UInt8} (h : ∀ y ∈ x, y ≠ c) : spR (x ++ c :: r) c = x :: spR r c := by
  have hi : Lib.index (x ++ c :: r) [c] = (x.length : Int) := (Lib.index_one _ c).trans (idx_at h)
  have hd : (x ++ c :: r).drop (x.length + [c].length) = r := by
    have e : x ++ c :: r = (x ++ [c]) ++ r := by simp
    rw [e, show x.length + [c].length = (x ++ [c]).length by simp, List.drop_left]
  rw [spR_eq, spR_eq, Lib.count_hit (by simp) hi, hd, Nat.add_comm, Lib.splitK, if_neg (by rw [hi, beq_iff_eq]; omega), hi]
  simp only [Int.toNat_natCast, hd, Nat.add_zero]
  rw [List.take_left]
theorem spR_len (s : List UInt8) (c : UInt8) : (spR s c).length = Lib.countB ⟨s.toArray⟩ ⟨#[c]⟩ + 1 := by
  unfold spR
  rw [List.length_map, Lib.splitB_all ⟨#[c]⟩ (Nat.le_refl 1) 0 _ _ rfl]
/-! ## an end cut off -/
theorem trs_end (x : List UInt8) (c : UInt8) : Lib.trimSuffix (x ++ [c]) [c] = x := by
  unfold Lib.trimSuffix Lib.hasSuffix
  rw [if_pos (List.isSuffixOf_iff_suffix.2 (List.suffix_append x [c]))]
  simp
theorem trs_other {x : List UInt8} {a c : UInt8} (h : a ≠ c) : Lib.trimSuffix (x ++ [a]) [c] = x ++ [a] := by
  unfold Lib.trimSuffix Lib.hasSuffix
  rw [if_neg]
  intro hh
  obtain ⟨t, ht⟩ := List.isSuffixOf_iff_suffix.1 hh
  have := List.append_inj_right' ht rfl
  simp at this
  exact h this.symm
theorem trs_none {s : List UInt8} {c : UInt8} (h : ∀ x ∈ s, x ≠ c) : Lib.trimSuffix s [c] = s := by
  rcases List.eq_nil_or_concat s with rfl | ⟨x, a, rfl⟩
  · rfl
  · rw [List.concat_eq_append] at h ⊢
    exact trs_other (h a (by simp))
theorem trs_mid {x r : List UInt8} {c : UInt8} (h : r ≠ []) : Lib.trimSuffix (x ++ c :: r) [c] = x ++ c :: Lib.trimSuffix r [c] := by
  rcases List.eq_nil_or_concat r with rfl | ⟨y, a, rfl⟩
  · exact absurd rfl h
  · rw [List.concat_eq_append]
    have e : x ++ c :: (y ++ [a]) = (x ++ c :: y) ++ [a] := by simp
    rw [e]
    by_cases ha : a = c
    · subst ha
      rw [trs_end, trs_end]
    · rw [trs_other ha, trs_other ha, e]
theorem trs_len (s : List UInt8) (c : UInt8) : (Lib.trimSuffix s [c]).length ≤ s.length := by
  unfold Lib.trimSuffix
  split
  · rw [List.length_take]; omega
  · exact Nat.le_refl _
end Go.Sv
namespace Go.Proofs.YthgbpgjpnaanlaaGreatDoor
open Go Go.Sv Go.RowKit

theorem ne10 {l : List UInt8} (h : ∀ x ∈ l, x.toNat ≠ 10) : ∀ x ∈ l, x ≠ (10 : UInt8) := fun x hx e => h x hx (by rw [e]; rfl)
theorem spl_lines : ∀ (n : Nat) (s : List UInt8), s.length ≤ n → s ≠ [] → spR (Lib.trimSuffix s [10]) 10 = linesR s
  | 0, s, hn, h => absurd (List.eq_nil_of_length_eq_zero (by omega)) h
  | n + 1, s, hn, h => by
    have hc := lines_cut h
    have hno := cutT_no s
    rcases index_cut s with ⟨h1, h2⟩ | ⟨i, hi, h1, h2⟩
    · rw [h2] at hc hno
      rw [hc, trs_none (ne10 hno), spR_none (ne10 hno)]
      rfl
    · rw [h2] at hc hno
      dsimp only at hc hno
      have hs : s = s.take i ++ 10 :: s.drop (i + 1) := by
        have hg := (Lib.indexByte_some h1).1
        have e1 := List.drop_eq_getElem_cons hi
        have e2 : s[i] = 10 := by rw [List.getElem?_eq_getElem hi] at hg; exact Option.some.inj hg
        rw [e2] at e1
        rw [← e1, List.take_append_drop]
      rw [hc]
      conv => lhs; rw [hs]
      by_cases hr : s.drop (i + 1) = []
      · rw [hr, trs_end, spR_none (ne10 hno)]
        rfl
      · rw [trs_mid hr, spR_at (ne10 hno), spl_lines n _ (by rw [List.length_drop]; omega) hr]
/-- the size cell of internal/bytealg holds a number -/
def MaxW (w : World) : Prop := ∃ m, w.cell? ⟨2, 0, none⟩ = some (.int .i64 m)
theorem MaxW.of_shape {w : World} (h : w.ShapedOpen Tryz.prog) : MaxW w := Tryz.laysM146.s1_3 w h
theorem MaxW.frm {w w' : World} (h : MaxW w) (hf : Frm w w') : MaxW w' := by
  obtain ⟨m, hm⟩ := h
  refine ⟨m, ?_⟩
  have hlt : 2 < w.heap.size := by
    rcases Nat.lt_or_ge 2 w.heap.size with h | h
    · exact h
    · unfold World.cell? at hm
      rw [Array.getElem?_eq_none h] at hm
      cases hm
  unfold World.cell? at hm ⊢
  rw [show w'.heap[2]? = w.heap[2]? from hf.block _ hlt]
  exact hm
theorem spSplit_ok (s : List UInt8) (c : UInt8) (hb : s.length ≤ 1073741824) (w : World) (hM : MaxW w) :
    CallsR Tryz.prog 22 #[str s, str [c]] w fun v w' => ∃ b, v = .slice (pb b) (spR s c).length (spR s c).length ∧ Sep w w' [pOwn b (strs (spR s c))] := by
  obtain ⟨m, hm⟩ := hM
  refine Calls.mono (Tryz.strings_Split ⟨s.toArray⟩ ⟨#[c]⟩ m w (by rw [ByteArray.size]; simp; omega) hm (Nat.le_refl 1)) ?_
  rintro e w' ⟨rfl, rfl⟩
  refine ⟨_, rfl, w.heap.size, ?_, ?_⟩
  · rw [spR_len]
  · refine (Sep.start w).push (frm_alloc w _) ?_ (by simp [pOwn])
    have e : strs (spR s c) = (Lib.splitB ⟨#[c]⟩ 0 (Lib.countB ⟨s.toArray⟩ ⟨#[c]⟩) ⟨s.toArray⟩).map Value.string := by
      unfold spR strs
      rw [List.map_map]
      refine List.map_congr_left fun x _ => ?_
      rfl
    rw [e]
    exact own_alloc w _ _
end Go.Proofs.YthgbpgjpnaanlaaGreatDoor

/-
  How events nest: the plain part; the stack of names.
-/
set_option linter.unusedSimpArgs false
set_option linter.unusedVariables false
set_option linter.unnecessarySimpa false
namespace Go.Sv
open Go Go.RowKit
/-- a cut behind a piece of code -/
theorem wcutt {P : Program} {n : Nat} {ds : Ctx} {K : Ctx → Env → World → Prop} {Q : Exit → Ctx → Env → World → Prop} {σ : Env} {w : World} {a : Code} {X : Type} (sl : X → List (Nat × Value)) (I : X → World → Prop)
    (ha : WC P n ds a (thl ds (fun σ w => ∃ x, Has σ (sl x) ∧ I x w) Q) σ w) (hb : ∀ x w (ρ : GE), I x w → K ds (real (updGL ρ (sl x))) w) : WC P n ds a (thn K Q) σ w := by
  refine WC_mono ha ?_
  intro e c' σ' w' h
  unfold thl at h
  unfold thn
  cases e <;> try exact h
  obtain ⟨rfl, x, h1, h2⟩ := h
  have := hb x w' (lif σ') h2
  rw [← real_updL, updL_has h1] at this
  exact this
/-- two worlds that agree on the first B blocks -/
structure Same (B : Nat) (w w' : World) : Prop where
  os : w'.os = w.os
  tape : w'.tape = w.tape
  output : w'.output = w.output
  size : B ≤ w'.heap.size
  block : ∀ k, k < B → w'.heap[k]? = w.heap[k]?
theorem Same.of_frm {w0 w w' : World} (h : Frm w0 w) (h' : Frm w0 w') : Same w0.heap.size w w' := ⟨h'.os.trans h.os.symm, h'.tape.trans h.tape.symm, h'.output.trans h.output.symm, h'.size, fun k hk => (h'.block k hk).trans (h.block k hk).symm⟩
theorem Same.frm {w w1 w2 : World} (h : Frm w w1) (h' : Same w.heap.size w1 w2) : Frm w w2 := ⟨h'.os.trans h.os, h'.tape.trans h.tape, h'.output.trans h.output, h'.size, fun k hk => (h'.block k hk).trans (h.block k hk)⟩
theorem Same.of_sep {w0 w w' : World} {cs ds : List Plot} (h : Sep w0 w cs) (h' : Sep w0 w' ds) : Same w0.heap.size w w' := Same.of_frm h.frm h'.frm
theorem Own.same {B : Nat} {w w' : World} {b : Nat} {l : List Value} (h : Own w b l) (hs : Same B w w') (hb : b < B) : Own w' b l := h.of_block (hs.block b hb)
/-- what was there before has been written: the pieces stay -/
theorem Sep.rebase {w0 w w' : World} {cs : List Plot} {N : List Nat} (h : Sep w0 w cs) (hl : Le N w w') (hN : ∀ x ∈ N, x < w0.heap.size) : ∃ w1 : World, w1.heap.size = w0.heap.size ∧ Sep w1 w' cs := by
  have hsz : w0.heap.size ≤ w'.heap.size := Nat.le_trans h.frm.size hl.size
  refine ⟨{ w' with heap := w'.heap.extract 0 w0.heap.size }, by simp; omega, ⟨⟨rfl, rfl, rfl, by simp; omega, fun k hk => ?_⟩, fun c hc => ?_, fun c hc x hx => ?_, h.apart⟩⟩
  · simp at hk
    simp [Array.getElem?_extract, Nat.sub_zero]
    intro h1
    omega
  · refine c.loc w w' (h.ok c hc) fun x hx => hl.block x (h.lt hc x hx) fun hm => ?_
    have := hN x hm
    have := h.low c hc x hx
    omega
  · have := h.low c hc x hx
    simp
    omega
end Go.Sv
namespace Go.Proofs.YthgbpgjpnaanlaaGreatDoor
open Go Go.Sv Go.RowKit

/-! ## The plain part -/
structure Lk where
  stack : List (List UInt8)
  most : Nat
  at_ : Nat
  err : Int
  good : Nat
def lkStep (k : Lk) (e : Ev) : Lk :=
  if k.err = 0 then
    if evR e then
      if e.kind = 1 then ⟨k.stack ++ [e.name], max k.most (k.stack.length + 1), 0, 0, k.good + 1⟩
      else if e.kind = 3 then ⟨k.stack, max k.most (k.stack.length + 1), 0, 0, k.good + 1⟩
      else if e.kind = 2 then (if k.stack.getLast? = some e.name then ⟨k.stack.dropLast, k.most, 0, 0, k.good + 1⟩ else { k with at_ := k.good, err := 181 })
      else ⟨k.stack, k.most, 0, 0, k.good + 1⟩
    else { k with at_ := k.good, err := 180 }
  else k
def lk0 : Lk := ⟨[], 0, 0, 0, 0⟩
/-- how events nest -/
def lkR (l : List Ev) : Lk := l.foldl lkStep lk0
theorem lk_bad {k : Lk} (h : k.err ≠ 0) (l : List Ev) : l.foldl lkStep k = k := by
  induction l with
  | nil => rfl
  | cons e l ih => rw [List.foldl_cons, lkStep, if_neg h, ih]
theorem lk_take {l : List Ev} {i : Nat} {e : Ev} (h : l[i]? = some e) : lkR (l.take (i + 1)) = lkStep (lkR (l.take i)) e := by
  rw [List.take_add_one, h, lkR, List.foldl_append]; rfl
theorem lk_split (l : List Ev) (i : Nat) : lkR l = (l.drop i).foldl lkStep (lkR (l.take i)) := by
  conv => lhs; rw [← List.take_append_drop i l, lkR, List.foldl_append]
  rfl
theorem lk_stop {l : List Ev} {i : Nat} (h : (lkR (l.take i)).err ≠ 0) : lkR l = lkR (l.take i) := by rw [lk_split l i, lk_bad h]
theorem lk_ok {l : List Ev} (h : (lkR l).err = 0) : (lkR l).at_ = 0 ∧ (lkR l).good = l.length ∧ (lkR l).stack.length ≤ l.length ∧ (lkR l).most ≤ l.length := by
  have key : ∀ (l : List Ev) (k : Lk), (l.foldl lkStep k).err = 0 → k.at_ = 0 → (l.foldl lkStep k).at_ = 0 ∧ (l.foldl lkStep k).good = k.good + l.length ∧ (l.foldl lkStep k).stack.length ≤ k.stack.length + l.length ∧ (l.foldl lkStep k).most ≤ max k.most k.stack.length + l.length := by
    intro l
    induction l with
    | nil => intro k h1 h2; exact ⟨h2, rfl, Nat.le_refl _, by simp [Nat.le_max_left]⟩
    | cons e l ih =>
      intro k h1 h2
      rw [List.foldl_cons] at h1 ⊢
      have hk : (lkStep k e).err = 0 := by
        apply Decidable.byContradiction
        intro hne
        rw [lk_bad hne] at h1
        exact hne h1
      have hs : (lkStep k e).at_ = 0 ∧ (lkStep k e).good = k.good + 1 ∧ (lkStep k e).stack.length ≤ k.stack.length + 1 ∧ (lkStep k e).most ≤ max k.most k.stack.length + 1 ∧ max (lkStep k e).most (lkStep k e).stack.length ≤ max k.most k.stack.length + 1 := by
        revert hk
        unfold lkStep
        split <;> (try split) <;> (try split) <;> (try split) <;> (try split) <;> (try split) <;> intro hk <;> simp at hk ⊢ <;> omega
      obtain ⟨g1, g2, g3, g4⟩ := ih _ h1 hs.1
      refine ⟨g1, by rw [g2, hs.2.1, List.length_cons]; omega, by rw [List.length_cons]; omega, by rw [List.length_cons]; omega⟩
  have := key l lk0 h rfl
  simpa [lkR, lk0] using this
/-- one that is right -/
theorem lk_right {k : Lk} {e : Ev} (h0 : k.err = 0) (h : (lkStep k e).err = 0) : evR e = true ∧ lkStep k e = ⟨if e.kind = 1 then k.stack ++ [e.name] else if e.kind = 2 then k.stack.dropLast else k.stack, if e.kind = 1 ∨ e.kind = 3 then max k.most (k.stack.length + 1) else k.most, 0, 0, k.good + 1⟩ := by
  revert h
  unfold lkStep
  rw [if_pos h0]
  cases he : evR e with
  | false => intro h; simp at h
  | true =>
    simp only [if_true]
    by_cases h1 : e.kind = 1
    · simp [h1]
    · rw [if_neg h1]
      by_cases h3 : e.kind = 3
      · simp [h3]
      · rw [if_neg h3]
        by_cases h2 : e.kind = 2
        · rw [if_pos h2]
          split
          · simp [h2]
          · intro h; simp at h
        · simp [h1, h2, h3]

/-! ## A stack of names in memory -/
/-- a stack: where it lies, and its names -/
def pStk (b : Nat) (p : Option Addr) (c : Nat) (st : List (List UInt8)) : List Plot := [pOwn b [.slice p st.length c], pRow 1 p st.length c (strs st)]
set_option maxHeartbeats 1000000 in
theorem push_ok (b : Nat) (p : Option Addr) (c : Nat) (st : List (List UInt8)) (x : List UInt8) (hb : st.length ≤ 1048576) (w0 w : World) (cs : List Plot) (hS : Sep w0 w (pOwn b [.slice p st.length c] :: pRow 1 p st.length c (strs st) :: cs)) :
    CallsR Tryz.prog 74 #[ptrAt (pb b) 0, str x] w fun _ w' => ∃ p' c', Sep w0 w' (pOwn b [.slice p' (st ++ [x]).length c'] :: pRow 1 p' (st ++ [x]).length c' (strs (st ++ [x])) :: cs) := by
  refine enter (l := [ptrAt (pb b) 0, str x]) Tryz.func74 rfl Tryz.ntmps74 (by kernel_rfl) rfl ?_
  refine sgo ?_
  refine sb1s hS fun b2 w2 hS => ?_
  refine sgo ?_
  refine sapp hS 2 (hS.own 0 rfl).sg fun p' c' w3 hS => ?_
  rw [strs_snoc] at hS
  have hn : st.length + 1 = (st ++ [x]).length := by simp
  rw [hn] at hS ⊢
  refine sgo ?_
  refine sst_slice hS 1 fun w4 hS => ?_
  refine sgo ?_
  (first | refine fp1 (.inl rfl) rfl rfl ?_ | refine fp2 (.inl rfl) rfl rfl rfl ?_ | refine fp3 (.inl rfl) rfl rfl rfl rfl ?_ | refine fp0 (.inr rfl) rfl ?_ | refine fp0 (.inl rfl) rfl ?_ | refine fp1 (.inr rfl) rfl rfl ?_)
  exact ⟨p', c', hS.tail⟩
set_option maxHeartbeats 1000000 in
theorem pop_ok (b : Nat) (p : Option Addr) (c : Nat) (st : List (List UInt8)) (hb : st.length ≤ 1048576) (h0 : st ≠ []) (w0 w : World) (cs : List Plot) (hS : Sep w0 w (pOwn b [.slice p st.length c] :: pRow 1 p st.length c (strs st) :: cs)) :
    CallsR Tryz.prog 75 #[ptrAt (pb b) 0] w fun _ w' => Sep w0 w' (pOwn b [.slice p st.dropLast.length c] :: pRow 1 p st.dropLast.length c (strs st.dropLast) :: cs) := by
  have hpos : 0 < st.length := List.length_pos_iff.2 h0
  have hle := (hS.row 1 rfl).le_cap
  refine enter (l := [ptrAt (pb b) 0]) Tryz.func75 rfl Tryz.ntmps75 (by kernel_rfl) rfl ?_
  refine sgo ?_
  refine wcdrawt 14 ?_
  refine qgo ?_
  refine QL_nil ?_
  intro w1 hf1
  replace hS := hS.grow hf1
  refine sgo ?_
  refine sst_slice hS 0 fun w4 hS => ?_
  refine sgo ?_
  (first | refine fp1 (.inl rfl) rfl rfl ?_ | refine fp2 (.inl rfl) rfl rfl rfl ?_ | refine fp3 (.inl rfl) rfl rfl rfl rfl ?_ | refine fp0 (.inr rfl) rfl ?_ | refine fp0 (.inl rfl) rfl ?_ | refine fp1 (.inr rfl) rfl rfl ?_)
  have hn : ((st.length : Int) - 1).toNat = st.dropLast.length := by simp
  rw [hn] at hS
  refine Sep.turn (c := pRow 1 p st.length c (strs st)) (c' := pRow 1 p st.dropLast.length c (strs st.dropLast)) hS 1 rfl (fun h => ?_) (fun x hx => hx)
  have := Row.take h (j := st.dropLast.length) (by simp)
  rw [Nat.mul_one] at this
  have e : (strs st).take st.dropLast.length = strs st.dropLast := by rw [strs, strs, ← List.map_take, List.length_dropLast, List.dropLast_eq_take]
  rw [e] at this
  exact this
set_option maxHeartbeats 1000000 in
theorem top_ok (b : Nat) (p : Option Addr) (c : Nat) (st : List (List UInt8)) (hb : st.length ≤ 1048576) (w0 w : World) (cs : List Plot) (hS : Sep w0 w (pOwn b [.slice p st.length c] :: pRow 1 p st.length c (strs st) :: cs)) :
    PureC Tryz.prog 73 #[ptrAt (pb b) 0] w (.tuple #[str (st.getLast?.getD []), .bool !decide (st = [])]) := by
  refine enter (l := [ptrAt (pb b) 0]) Tryz.func73 rfl Tryz.ntmps73 (by kernel_rfl) rfl ?_
  refine sgo ?_
  (show WC _ _ _ _ _ _ _; first | refine WC_dec rfl (fun hc => ?_) (fun hc => ?_) | refine WC_cond rfl (fun hc => ?_) (fun hc => ?_))
  · obtain rfl : st = [] := List.length_eq_zero_iff.1 (by omega)
    refine sgo ?_
    (first | refine fp1 (.inl rfl) rfl rfl ?_ | refine fp2 (.inl rfl) rfl rfl rfl ?_ | refine fp3 (.inl rfl) rfl rfl rfl rfl ?_ | refine fp0 (.inr rfl) rfl ?_ | refine fp0 (.inl rfl) rfl ?_ | refine fp1 (.inr rfl) rfl rfl ?_); refine ⟨?_, by (first | exact Frm.refl _ | assumption | exact Go.Sv.Sep.frm (by assumption) | (refine Frm.trans ?_ (by assumption); first | exact Frm.refl _ | assumption))⟩; (try simp only [realB, rv_true, Nat.reduceBEq, cond_true, cond_false, entG, real_lif, updGL])
    rfl
  · have h0 : st ≠ [] := fun h => hc (by rw [h]; rfl)
    have hpos : 0 < st.length := List.length_pos_iff.2 h0
    clear hc
    have hp : ∃ a, p = some a := (hS.row 1 rfl).sg.some (by rw [strs_len]; exact hpos)
    have hg : (strs st)[((st.length : Int) - 1).toNat]? = some (str (st.getLast?.getD [])) := by
      rw [show ((st.length : Int) - 1).toNat = st.length - 1 by omega, strs, List.getElem?_map, List.getLast?_eq_getElem?, List.getElem?_eq_getElem (by omega)]
      rfl
    refine sgo ?_
    refine wcdraw ?_
    refine qgo ?_
    refine QL_nil ?_
    intro w1 hf1
    refine sgo ?_
    (first | refine fp1 (.inl rfl) rfl rfl ?_ | refine fp2 (.inl rfl) rfl rfl rfl ?_ | refine fp3 (.inl rfl) rfl rfl rfl rfl ?_ | refine fp0 (.inr rfl) rfl ?_ | refine fp0 (.inl rfl) rfl ?_ | refine fp1 (.inr rfl) rfl rfl ?_); refine ⟨?_, by (first | exact Frm.refl _ | assumption | exact Go.Sv.Sep.frm (by assumption) | (refine Frm.trans ?_ (by assumption); first | exact Frm.refl _ | assumption))⟩; (try simp only [realB, rv_true, Nat.reduceBEq, cond_true, cond_false, entG, real_lif, updGL])
    simp [h0]
end Go.Proofs.YthgbpgjpnaanlaaGreatDoor

/-
  Package event: walk.
-/
set_option linter.unusedSimpArgs false
set_option linter.unusedVariables false
set_option linter.unnecessarySimpa false
namespace Go.Proofs.YthgbpgjpnaanlaaGreatDoor
open Go Go.Sv Go.RowKit

/-- the events alone -/
def evs (ms : List EvM) : List Ev := ms.map EvM.e
theorem evs_len (ms : List EvM) : (evs ms).length = ms.length := by simp [evs]
theorem evs_at {ms : List EvM} {i : Nat} {m : EvM} (h : ms[i]? = some m) : (evs ms)[i]? = some m.e := by simp [evs, h]
/-- how the first i nest -/
def lkI (ms : List EvM) (i : Nat) : Lk := lkR ((evs ms).take i)
theorem lkI_succ {ms : List EvM} {i : Nat} {m : EvM} (h : ms[i]? = some m) : lkI ms (i + 1) = lkStep (lkI ms i) m.e := lk_take (evs_at h)
theorem lkI_ok {ms : List EvM} {i : Nat} (hi : i ≤ ms.length) (h : (lkI ms i).err = 0) : (lkI ms i).at_ = 0 ∧ (lkI ms i).good = i ∧ (lkI ms i).stack.length ≤ i ∧ (lkI ms i).most ≤ i := by
  have := lk_ok h
  rw [List.length_take, evs_len, Nat.min_eq_left hi] at this
  exact this
theorem lkI_stop {ms : List EvM} {i : Nat} (h : (lkI ms i).err ≠ 0) : lkR (evs ms) = lkI ms i := lk_stop h
theorem lkI_all (ms : List EvM) : lkI ms ms.length = lkR (evs ms) := by rw [lkI, ← evs_len, List.take_length]

set_option maxHeartbeats 1000000 in
/-- walk, over whatever it is that sees -/
theorem walk_ok (ms : List EvM) (p : Option Addr) (c : Nat) (hn : ms.length ≤ 1048576) (hs : ∀ m ∈ ms, m.e.small) (f : FuncId) [hf : Fnc Tryz.prog f] (cap : List Value) (B : Nat) (J Jx : Nat → World → Prop)
    (hJE : ∀ i w, J i w → Evs w p ms ∧ Asc w) (hst : ∀ i w1 w2, J i w1 → Same B w1 w2 → J i w2) (hstx : ∀ i w1 w2, Jx i w1 → Same B w1 w2 → Jx i w2)
    (hsee : ∀ i w1 m, J i w1 → ms[i]? = some m → (lkI ms i).err = 0 → (lkI ms (i + 1)).err = 0 → CallsR Tryz.prog f ([int (lkI ms i).stack.length, .agg ⟨m.cells⟩] ++ cap).toArray w1 fun v w2 => ∃ bb N, v = .bool bb ∧ Le N w1 w2 ∧ (∀ x ∈ N, x < B) ∧ if bb then J (i + 1) w2 else Jx i w2)
    (w : World) (hB : B = w.heap.size) (h0 : J 0 w) :
    CallsR Tryz.prog 47 #[.slice p ms.length c, .func (.func f) #[] ⟨cap⟩] w fun v w' =>
      (J (lkR (evs ms)).good w' ∧ (lkR (evs ms)).err ≠ 0 ∧ v = .tuple #[int (lkR (evs ms)).at_, int (lkR (evs ms)).err, .slice none 0 0]) ∨
      (J ms.length w' ∧ (lkR (evs ms)).err = 0 ∧ ∃ q cc w0, v = .tuple #[int 0, int 0, .slice q (lkR (evs ms)).stack.length cc] ∧ w0.heap.size = B ∧ Sep w0 w' [pRow 1 q (lkR (evs ms)).stack.length cc (strs (lkR (evs ms)).stack)]) ∨
      ∃ i q n cc, i < ms.length ∧ (lkI ms (i + 1)).err = 0 ∧ Jx i w' ∧ v = .tuple #[int 0, int 0, .slice q n cc] := by
  refine enter (l := [.slice p ms.length c, .func (.func f) #[] ⟨cap⟩]) Tryz.func47 rfl Tryz.ntmps47 (by kernel_rfl) rfl ?_
  have hS := Sep.start w
  refine sgo ?_
  refine salloc hS fun b7 w7 hS => ?_
  replace hS : Sep w w7 [pOwn b7 [.slice none 0 0]] := hS
  replace hS := (hS.push (c := pRow 1 none 0 0 (strs [])) (Frm.refl w7) (Row.nil w7 1) (by simp [pRow, rb])).front 1 rfl
  have hJ7 := hst 0 _ _ h0 (hB ▸ Same.of_frm (Frm.refl w) hS.frm)
  refine sgo ?_
  refine wcloop (X := Nat × Option Addr × Nat) (fun x => [(1, .func (.func f) #[] ⟨cap⟩), (4, int 0), (5, int 0), (6, .slice none 0 0), (7, ptrAt (pb b7) 0), (13, .slice p ms.length c), (14, int ms.length), (15, int x.1)])
    (fun x wr => x.1 ≤ ms.length ∧ (lkI ms x.1).err = 0 ∧ J x.1 wr ∧ ∃ w0, w0.heap.size = B ∧ Sep w0 wr [pOwn b7 [.slice x.2.1 (lkI ms x.1).stack.length x.2.2], pRow 1 x.2.1 (lkI ms x.1).stack.length x.2.2 (strs (lkI ms x.1).stack)])
    (fun x => ms.length - x.1) (0, none, 0) ⟨rfl, rfl, rfl, rfl, rfl, rfl, rfl, rfl, trivial⟩ ⟨Nat.zero_le _, rfl, hJ7, w, hB.symm, hS⟩ ?_
  clear hS hJ7 h0
  rintro ⟨i, q, cc⟩ wr ρ ⟨hil, herr, hJ, w0, hw0, hS⟩
  dsimp only at *
  have hok := lkI_ok hil herr
  have hE := (hJE i wr hJ).1
  have hA := (hJE i wr hJ).2
  refine sgo ?_
  (show WC _ _ _ _ _ _ _; first | refine WC_dec rfl (fun hc => ?_) (fun hc => ?_) | refine WC_cond rfl (fun hc => ?_) (fun hc => ?_))
  · have hlt : i < ms.length := by omega
    have hx : ms[i]? = some ms[i] := List.getElem?_eq_getElem hlt
    have hmem : ms[i] ∈ ms := List.getElem_mem hlt
    have hseg := fm_seg EvM.len ms hx
    have hfl := fm_len EvM.len ms
    have hat := hE.each _ hmem
    have hsm := hs _ hmem
    have hps : ∃ a, p = some a := hE.im.sg.some (by omega)
    have hSg := hE.im.sg
    have hsuc := lkI_succ hx
    generalize ms[i] = m at *
    generalize hk : lkI ms i = k at *
    clear hc
    have hJat : ∀ w' ds, Sep w0 w' ds → J i w' := fun w' ds h => hst i wr w' hJ (hw0 ▸ Same.of_sep hS h)
    clear hat
    obtain ⟨⟨kd, nm, tx, es⟩, mp, mc⟩ := m
    refine sgo ?_
    rw [hseg]
    refine salloc hS fun b9 w9 hS => ?_
    refine sgo ?_
    refine ssta (vs := [int kd, str nm, str tx, .slice mp es.length mc]) hS 0 fun w10 hS => ?_
    replace hS : Sep w0 w10 [pOwn b9 [int kd, str nm, str tx, .slice mp es.length mc], pOwn b7 [.slice q k.stack.length cc], pRow 1 q k.stack.length cc (strs k.stack)] := hS
    have h10 := hJE i _ (hJat _ _ hS)
    refine sgo ?_
    refine wlpure (evCheck_ok ⟨kd, nm, tx, es⟩ mp mc hsm w10 h10.2 (h10.1.each _ hmem)) fun w11 hf11 => ?_
    replace hS := hS.grow hf11
    have hst1 : evR ⟨kd, nm, tx, es⟩ = false → lkStep k ⟨kd, nm, tx, es⟩ = { k with at_ := k.good, err := 180 } := by
      intro he; simp [lkStep, herr, he]
    cases he : evR ⟨kd, nm, tx, es⟩ with
    | false =>
      have hend := lkI_stop (ms := ms) (i := i + 1) (by rw [hsuc]; dsimp only; rw [hst1 he]; simp)
      rw [hsuc] at hend
      dsimp only at hend
      rw [hst1 he] at hend
      refine sgo ?_
      (first | refine fp1 (.inl rfl) rfl rfl ?_ | refine fp2 (.inl rfl) rfl rfl rfl ?_ | refine fp3 (.inl rfl) rfl rfl rfl rfl ?_ | refine fp0 (.inr rfl) rfl ?_ | refine fp0 (.inl rfl) rfl ?_ | refine fp1 (.inr rfl) rfl rfl ?_)
      refine .inl ⟨?_, ?_, ?_⟩
      · rw [hend]; exact hok.2.1 ▸ hJat _ _ hS
      · rw [hend]; exact (by decide : (180 : Int) ≠ 0)
      · rw [hend]; show _ = Value.tuple #[int k.good, int 180, .slice none 0 0]; rw [hok.2.1]; rfl
    | true =>
      refine sgo ?_
      refine wcutt (X := Unit) (fun _ => [(1, .func (.func f) #[] ⟨cap⟩), (4, int 0), (5, int 0), (6, .slice none 0 0), (7, ptrAt (pb b7) 0), (8, int i), (9, ptrAt (pb b9) 0), (13, .slice p ms.length c), (14, int ms.length), (15, int i)])
        (fun _ w' => (lkStep k ⟨kd, nm, tx, es⟩).err = 0 ∧ Sep w0 w' [pOwn b9 [int kd, str nm, str tx, .slice mp es.length mc], pOwn b7 [.slice q k.stack.length cc], pRow 1 q k.stack.length cc (strs k.stack)]) ?_ ?_
      · (show WC _ _ _ _ _ _ _; first | refine WC_dec rfl (fun hc => ?_) (fun hc => ?_) | refine WC_cond rfl (fun hc => ?_) (fun hc => ?_))
        · replace hc : kd = 2 := hc
          subst hc
          refine sgo ?_
          refine wlpure (top_ok b7 q cc k.stack (by omega) w0 w11 [] hS.tail) fun w12 hf12 => ?_
          replace hS := hS.grow hf12
          have h3 : lkStep k ⟨2, nm, tx, es⟩ = if k.stack.getLast? = some nm then ⟨k.stack.dropLast, k.most, 0, 0, k.good + 1⟩ else { k with at_ := k.good, err := 181 } := by
            simp [lkStep, herr, he]
          refine sgo ?_
          have hB2 : pkb (!(!decide (k.stack = []))) true (decide (k.stack.getLast?.getD [] ≠ nm)) = !decide (k.stack.getLast? = some nm) := by
            cases hl : k.stack.getLast? with
            | none => rw [List.getLast?_eq_none_iff.1 hl]; rfl
            | some z =>
              have hne : k.stack ≠ [] := by intro h; rw [h] at hl; cases hl
              simp [hne, pkb]
          rw [hB2]
          by_cases hl : k.stack.getLast? = some nm
          · rw [if_pos hl] at h3
            simp only [hl, decide_true, Bool.not_true]
            refine sgo ?_
            exact ⟨(), ⟨rfl, rfl, rfl, rfl, rfl, rfl, rfl, rfl, rfl, rfl, trivial⟩, by rw [h3], hS⟩
          · rw [if_neg hl] at h3
            have hend := lkI_stop (ms := ms) (i := i + 1) (by rw [hsuc]; dsimp only; rw [h3]; exact (by decide : (181 : Int) ≠ 0))
            rw [hsuc] at hend
            dsimp only at hend
            rw [h3] at hend
            simp only [hl, decide_false, Bool.not_false]
            refine sgo ?_
            (first | refine fp1 (.inl rfl) rfl rfl ?_ | refine fp2 (.inl rfl) rfl rfl rfl ?_ | refine fp3 (.inl rfl) rfl rfl rfl rfl ?_ | refine fp0 (.inr rfl) rfl ?_ | refine fp0 (.inl rfl) rfl ?_ | refine fp1 (.inr rfl) rfl rfl ?_)
            refine .inl ⟨?_, ?_, ?_⟩
            · rw [hend]; exact hok.2.1 ▸ hJat _ _ hS
            · rw [hend]; exact (by decide : (181 : Int) ≠ 0)
            · rw [hend]; show _ = Value.tuple #[int k.good, int 181, .slice none 0 0]; rw [hok.2.1]; rfl
        · replace hc : ¬ kd = 2 := hc
          refine sgo ?_
          refine ⟨(), ⟨rfl, rfl, rfl, rfl, rfl, rfl, rfl, rfl, rfl, rfl, trivial⟩, ?_, hS⟩
          simp only [lkStep, herr, he, if_true, if_neg hc]
          split <;> (try split) <;> rfl
      · clear hS
        rintro _ w12 ρ2 ⟨hright, hS⟩
        obtain ⟨-, hstep⟩ := lk_right herr hright
        dsimp only at hsuc
        have hsee' := hsee i w12 _ (hJat _ _ hS) hx (by rw [hk]; exact herr) (by rw [hsuc]; exact hright)
        rw [hk] at hsee'
        refine sgo ?_
        refine wlcallv (f := f) (first := []) (args := [int k.stack.length, .agg ⟨EvM.cells ⟨⟨kd, nm, tx, es⟩, mp, mc⟩⟩]) (cap := cap) hsee' ?_
        rintro _ w13 ⟨bb, N, rfl, hle, hN, hpost⟩
        obtain ⟨w1, hw1, hS⟩ := hS.rebase hle (by rw [hw0]; exact hN)
        rw [hw0] at hw1
        cases bb with
        | false =>
          simp only [Bool.false_eq_true, if_false] at hpost
          refine sgo ?_
          refine wcdraw ?_
          refine qgo ?_
          refine QL_nil ?_
          intro w14 hf14
          have hS4 := hS.grow hf14
          refine sgo ?_
          (first | refine fp1 (.inl rfl) rfl rfl ?_ | refine fp2 (.inl rfl) rfl rfl rfl ?_ | refine fp3 (.inl rfl) rfl rfl rfl rfl ?_ | refine fp0 (.inr rfl) rfl ?_ | refine fp0 (.inl rfl) rfl ?_ | refine fp1 (.inr rfl) rfl rfl ?_)
          exact .inr (.inr ⟨i, q, k.stack.length, cc, hlt, by rw [hsuc]; exact hright, hstx i _ _ hpost (hw1 ▸ Same.of_sep hS hS4), rfl⟩)
        | true =>
          simp only [if_true] at hpost
          have hjn : ∀ w' ds, Sep w1 w' ds → J (i + 1) w' := fun w' ds h => hst _ _ _ hpost (hw1 ▸ Same.of_sep hS h)
          refine sgo ?_
          (show WC _ _ _ _ _ _ _; first | refine WC_dec rfl (fun hc => ?_) (fun hc => ?_) | refine WC_cond rfl (fun hc => ?_) (fun hc => ?_))
          · replace hc : kd = 1 := hc
            subst hc
            refine sgo ?_
            refine wlcall (push_ok b7 q cc k.stack nm (by omega) w1 w13 [] hS.tail) ?_
            rintro _ w14 ⟨q', c', hS⟩
            refine sgo ?_
            refine ⟨(i + 1, q', c'), ⟨rfl, rfl, rfl, rfl, rfl, rfl, rfl, rfl, trivial⟩, ⟨hlt, by dsimp only; rw [hsuc]; exact hright, hjn _ _ hS, w1, hw1, ?_⟩, (by (try dsimp only); omega)⟩
            dsimp only
            rw [hsuc, hstep]
            exact hS
          · replace hc : ¬ kd = 1 := hc
            have hk1 := hc
            clear hc
            refine sgo ?_
            (show WC _ _ _ _ _ _ _; first | refine WC_dec rfl (fun hc => ?_) (fun hc => ?_) | refine WC_cond rfl (fun hc => ?_) (fun hc => ?_))
            · replace hc : kd = 2 := hc
              subst hc
              have hne : k.stack ≠ [] := by
                intro h
                revert hright
                simp [lkStep, herr, he, h]
              refine sgo ?_
              refine wlcall (pop_ok b7 q cc k.stack (by omega) hne w1 w13 [] hS.tail) ?_
              rintro _ w14 hS
              refine sgo ?_
              refine ⟨(i + 1, q, cc), ⟨rfl, rfl, rfl, rfl, rfl, rfl, rfl, rfl, trivial⟩, ⟨hlt, by dsimp only; rw [hsuc]; exact hright, hjn _ _ hS, w1, hw1, ?_⟩, (by (try dsimp only); omega)⟩
              dsimp only
              rw [hsuc, hstep]
              exact hS
            · replace hc : ¬ kd = 2 := hc
              have hk2 := hc
              clear hc
              refine sgo ?_
              refine ⟨(i + 1, q, cc), ⟨rfl, rfl, rfl, rfl, rfl, rfl, rfl, rfl, trivial⟩, ⟨hlt, by dsimp only; rw [hsuc]; exact hright, hjn _ _ hS, w1, hw1, ?_⟩, (by (try dsimp only); omega)⟩
              dsimp only
              rw [hsuc, hstep]
              dsimp only
              rw [if_neg hk1, if_neg hk2]
              exact hS.tail
  · obtain rfl : i = ms.length := by omega
    rw [lkI_all] at *
    clear hc
    refine sgo ?_
    refine wcdraw ?_
    refine qgo ?_
    refine QL_nil ?_
    intro w1 hf1
    have hS4 := hS.grow hf1
    refine sgo ?_
    (first | refine fp1 (.inl rfl) rfl rfl ?_ | refine fp2 (.inl rfl) rfl rfl rfl ?_ | refine fp3 (.inl rfl) rfl rfl rfl rfl ?_ | refine fp0 (.inr rfl) rfl ?_ | refine fp0 (.inl rfl) rfl ?_ | refine fp1 (.inr rfl) rfl rfl ?_)
    exact .inr (.inl ⟨hst _ _ _ hJ (hw0 ▸ Same.of_sep hS hS4), herr, q, cc, w0, rfl, hw0, hS4.tail⟩)
end Go.Proofs.YthgbpgjpnaanlaaGreatDoor

/-
  Package link: paths without dot segments; the twins.
-/
set_option linter.unusedSimpArgs false
set_option linter.unusedVariables false
set_option linter.unnecessarySimpa false
namespace Go.Sv
open Go Go.RowKit
section
variable {P : Program} {σ : Env} {w : World} {d : Option Tmp} {ty t t' : TypeId} {pos : String} {af : Array Edge} {g : Option (Nat × Bool)} {x y : Operand} {a b : Int} {ats : Array TypeId}
theorem y_max (hx : evl σ x = int a) (hy : evl σ y = int b) : Y P σ ⟨d, .call ⟨.builtin .max, #[x, y], ats⟩, ty, pos, af, g⟩ w (int (max a b)) w := by
  refine Y.val ?_; simp only [execOp, resolve, Sem.run_bind, Sem.run_pure, Result.andThen_ok, invoke, builtin]
  have e : (if b > a then b else a) = max a b := by omega
  simp [hx, hy, Builtin.max_, Builtin.max2, e]
end
end Go.Sv
namespace Go.Proofs.YthgbpgjpnaanlaaGreatDoor
open Go Go.Sv Go.RowKit

/-- how many bytes stand ahead of the first of some -/
def upR (l sm : List UInt8) : Nat := (l.takeWhile fun c => decide (c ∉ sm)).length
/-- the last place below n where c stands -/
def lastF (l : List UInt8) (c : Nat) : Nat → Int
  | 0 => -1
  | n + 1 => if at0 l n = c then n else lastF l c n
def lastR (l : List UInt8) (c : Nat) : Int := lastF l c l.length
def parR (l : List UInt8) : List UInt8 := l.take (max (lastR l 47) 0).toNat













def pfx (p l : List UInt8) : Bool := p.isPrefixOf l
/-- a segment's end -/
def segN (l : List UInt8) : Nat := 1 + upR (l.drop 1) [47]
def dotStep (l out : List UInt8) : List UInt8 × List UInt8 :=
  if pfx [46, 46, 47] l then (l.drop 3, out)
  else if pfx [46, 47] l then (l.drop 2, out)
  else if pfx [47, 46, 47] l then (l.drop 2, out)
  else if l = [47, 46] then ([47], out)
  else if pfx [47, 46, 46, 47] l then (l.drop 3, parR out)
  else if l = [47, 46, 46] then ([47], parR out)
  else if l = [46] ∨ l = [46, 46] then ([], out)
  else (l.drop (segN l), out ++ l.take (segN l))
def dotsF : Nat → List UInt8 → List UInt8 → List UInt8
  | 0, _, out => out
  | f + 1, l, out => if l = [] then out else dotsF f (dotStep l out).1 (dotStep l out).2
def dotsL (l out : List UInt8) : List UInt8 := dotsF l.length l out
end Go.Proofs.YthgbpgjpnaanlaaGreatDoor

/-
  Package event: Nested, Open, Depth.
-/
set_option linter.unusedSimpArgs false
set_option linter.unusedVariables false
set_option linter.unnecessarySimpa false
namespace Go.Proofs.YthgbpgjpnaanlaaGreatDoor
open Go Go.Sv Go.RowKit

theorem all_ok0 (d : Int) (e : Ev) (p : Option Addr) (c : Nat) (w : World) : PureC Tryz.prog 48 #[int d, .agg ⟨e.cells p c⟩] w (.bool true) := by
  refine enter (l := [int d, .agg ⟨e.cells p c⟩]) Tryz.func48 rfl Tryz.ntmps48 (by kernel_rfl) rfl ?_
  have hS := Sep.start w
  refine sgo ?_
  refine sbox (v := .agg ⟨e.cells p c⟩) hS fun b w1 hS => ?_
  refine sgo ?_
  (first | refine fp1 (.inl rfl) rfl rfl ?_ | refine fp2 (.inl rfl) rfl rfl rfl ?_ | refine fp3 (.inl rfl) rfl rfl rfl rfl ?_ | refine fp0 (.inr rfl) rfl ?_ | refine fp0 (.inl rfl) rfl ?_ | refine fp1 (.inr rfl) rfl rfl ?_); refine ⟨?_, by (first | exact Frm.refl _ | assumption | exact Go.Sv.Sep.frm (by assumption) | (refine Frm.trans ?_ (by assumption); first | exact Frm.refl _ | assumption))⟩; (try simp only [realB, rv_true, Nat.reduceBEq, cond_true, cond_false, entG, real_lif, updGL])
/-- walk, that nobody looks at -/
theorem walkAll_ok (ms : List EvM) (p : Option Addr) (c : Nat) (hn : ms.length ≤ 1048576) (hs : ∀ m ∈ ms, m.e.small) (w : World) (hA : Asc w) (hE : Evs w p ms) :
    CallsR Tryz.prog 47 #[.slice p ms.length c, .func (.func 48) #[] #[]] w fun v w' => Frm w w' ∧
      (((lkR (evs ms)).err ≠ 0 ∧ v = .tuple #[int (lkR (evs ms)).at_, int (lkR (evs ms)).err, .slice none 0 0]) ∨
      ((lkR (evs ms)).err = 0 ∧ ∃ q cc, v = .tuple #[int 0, int 0, .slice q (lkR (evs ms)).stack.length cc] ∧ Sep w w' [pRow 1 q (lkR (evs ms)).stack.length cc (strs (lkR (evs ms)).stack)])) := by
  refine CallsR.mono (walk_ok ms p c hn hs 48 [] w.heap.size (fun _ w' => Frm w w') (fun _ _ => False) (fun _ w' h => ⟨hE.frm h, hA.frm h⟩) (fun _ _ _ h h' => h'.frm h) (fun _ _ _ h _ => h)
    (fun i w1 m h _ _ _ => ?_) w rfl (Frm.refl w)) ?_
  · refine CallsR.mono (all_ok0 _ m.e m.p m.c w1) ?_
    rintro v w2 ⟨rfl, hf⟩
    exact ⟨true, [], rfl, hf.le, by simp, h.trans hf⟩
  · rintro v w' (⟨h1, h2, h3⟩ | ⟨h1, h2, q, cc, w0, h3, h4, h5⟩ | ⟨i, q, n, cc, _, _, h, _⟩)
    · exact ⟨h1, .inl ⟨h2, h3⟩⟩
    · refine ⟨h1, .inr ⟨h2, q, cc, h3, h1, h5.ok, fun c hc x hx => ?_, h5.apart⟩⟩
      rw [← h4]; exact h5.low c hc x hx
    · exact h.elim
theorem nested_ok (ms : List EvM) (p : Option Addr) (c : Nat) (hn : ms.length ≤ 1048576) (hs : ∀ m ∈ ms, m.e.small) (w : World) (hA : Asc w) (hE : Evs w p ms) :
    PureC Tryz.prog 27 #[.slice p ms.length c] w (.tuple #[int (lkR (evs ms)).at_, int (lkR (evs ms)).err]) := by
  refine enter (l := [.slice p ms.length c]) Tryz.func27 rfl Tryz.ntmps27 (by kernel_rfl) rfl ?_
  refine sgo ?_
  refine wlcall (walkAll_ok ms p c hn hs w hA hE) ?_
  rintro _ w1 ⟨hf, ⟨h2, rfl⟩ | ⟨h2, q, cc, rfl, hS⟩⟩
  · refine sgo ?_
    (first | refine fp1 (.inl rfl) rfl rfl ?_ | refine fp2 (.inl rfl) rfl rfl rfl ?_ | refine fp3 (.inl rfl) rfl rfl rfl rfl ?_ | refine fp0 (.inr rfl) rfl ?_ | refine fp0 (.inl rfl) rfl ?_ | refine fp1 (.inr rfl) rfl rfl ?_); refine ⟨?_, by (first | exact Frm.refl _ | assumption | exact Go.Sv.Sep.frm (by assumption) | (refine Frm.trans ?_ (by assumption); first | exact Frm.refl _ | assumption))⟩; (try simp only [realB, rv_true, Nat.reduceBEq, cond_true, cond_false, entG, real_lif, updGL])
  · have h0 := (lk_ok h2).1
    refine sgo ?_
    (first | refine fp1 (.inl rfl) rfl rfl ?_ | refine fp2 (.inl rfl) rfl rfl rfl ?_ | refine fp3 (.inl rfl) rfl rfl rfl rfl ?_ | refine fp0 (.inr rfl) rfl ?_ | refine fp0 (.inl rfl) rfl ?_ | refine fp1 (.inr rfl) rfl rfl ?_); refine ⟨?_, by (first | exact Frm.refl _ | assumption | exact Go.Sv.Sep.frm (by assumption) | (refine Frm.trans ?_ (by assumption); first | exact Frm.refl _ | assumption))⟩; (try simp only [realB, rv_true, Nat.reduceBEq, cond_true, cond_false, entG, real_lif, updGL])
    rw [h0, h2]; rfl















def mostR (m d : Nat) (k : Int) : Nat := if k = 1 ∨ k = 3 then max m (d + 1) else m
set_option maxHeartbeats 1000000 in
theorem depth1_ok (d : Nat) (e : Ev) (p : Option Addr) (c : Nat) (b : Nat) (m : Nat) (hd : d ≤ 1048576) (w : World) (ho : Own w b [int m]) :
    CallsR Tryz.prog 49 #[int d, .agg ⟨e.cells p c⟩, ptrAt (pb b) 0] w fun v w' => v = .bool true ∧ Own w' b [int (mostR m d e.kind)] ∧ Le [b] w w' := by
  obtain ⟨k, nm, tx, es⟩ := e
  refine enter (l := [int d, .agg ⟨Ev.cells ⟨k, nm, tx, es⟩ p c⟩, ptrAt (pb b) 0]) Tryz.func49 rfl Tryz.ntmps49 (by kernel_rfl) rfl ?_
  refine sgo ?_
  refine wlbox (v := .agg ⟨Ev.cells ⟨k, nm, tx, es⟩ p c⟩) (hx := rfl) fun b4 w1 hb4 o4 hf1 => ?_
  have o1 := ho.frm hf1
  replace o4 : Own w1 b4 [int k, str nm, str tx, .slice p es.length c] := o4
  refine sgo ?_
  have hB : pkb (decide (k = 1)) true (decide (k = 3)) = decide (k = 1 ∨ k = 3) := by simp [pkb_or]
  rw [hB]
  (show WC _ _ _ _ _ _ _; first | refine WC_dec rfl (fun hc => ?_) (fun hc => ?_) | refine WC_cond rfl (fun hc => ?_) (fun hc => ?_))
  · have hk : k = 1 ∨ k = 3 := hc
    clear o4
    refine sgo ?_
    refine wl ?_ (y_max rfl rfl)
    refine wlst_int o1 (fun w2 o2 hl2 => ?_) 
    refine sgo ?_
    (first | refine fp1 (.inl rfl) rfl rfl ?_ | refine fp2 (.inl rfl) rfl rfl rfl ?_ | refine fp3 (.inl rfl) rfl rfl rfl rfl ?_ | refine fp0 (.inr rfl) rfl ?_ | refine fp0 (.inl rfl) rfl ?_ | refine fp1 (.inr rfl) rfl rfl ?_)
    refine ⟨rfl, ?_, (hf1.le).trans hl2⟩
    have e : (max (m : Int) (d + 1)) = ((mostR m d k : Nat) : Int) := by rw [mostR, if_pos hk]; omega
    rw [← e]; exact o2
  · have hk : ¬ (k = 1 ∨ k = 3) := hc
    refine sgo ?_
    (first | refine fp1 (.inl rfl) rfl rfl ?_ | refine fp2 (.inl rfl) rfl rfl rfl ?_ | refine fp3 (.inl rfl) rfl rfl rfl rfl ?_ | refine fp0 (.inr rfl) rfl ?_ | refine fp0 (.inl rfl) rfl ?_ | refine fp1 (.inr rfl) rfl rfl ?_)
    refine ⟨rfl, ?_, hf1.le⟩
    rw [mostR, if_neg hk]; exact o1
theorem lk_most {k : Lk} {e : Ev} (h0 : k.err = 0) (h : (lkStep k e).err = 0) : (lkStep k e).most = mostR k.most k.stack.length e.kind := by rw [(lk_right h0 h).2]; rfl
set_option maxHeartbeats 1000000 in
theorem depth_ok (ms : List EvM) (p : Option Addr) (c : Nat) (hn : ms.length ≤ 1048576) (hs : ∀ m ∈ ms, m.e.small) (w : World) (hA : Asc w) (hE : Evs w p ms) :
    PureC Tryz.prog 28 #[.slice p ms.length c] w (if (lkR (evs ms)).err = 0 then .tuple #[int (lkR (evs ms)).most, int 0] else .tuple #[int 0, int (lkR (evs ms)).err]) := by
  refine enter (l := [.slice p ms.length c]) Tryz.func28 rfl Tryz.ntmps28 (by kernel_rfl) rfl ?_
  refine sgo ?_
  refine wlalloc fun b4 w4 hb4 o4 hf4 => ?_
  replace o4 : Own w4 b4 [int 0] := o4
  refine sgo ?_
  refine wlst_int o4 (fun w5 o5 hl5 => ?_)
  replace o5 : Own w5 b4 [int ((0 : Nat) : Int)] := o5
  have hf5 : Frm w w5 := hf4.step hl5 (by simpa using hb4)
  have hlt := o5.lt
  refine sgo ?_
  refine wlcall (walk_ok ms p c hn hs 49 [ptrAt (pb b4) 0] w5.heap.size (fun i w' => Own w' b4 [int (lkI ms i).most] ∧ Frm w w') (fun _ _ => False) (fun _ w' h => ⟨hE.frm h.2, hA.frm h.2⟩)
    (fun _ w1 w2 h h' => ⟨h.1.same h' hlt, ?_⟩) (fun _ _ _ h _ => h) (fun i w1 m h hx h0 h1 => ?_) w5 rfl ⟨o5, hf5⟩) ?_
  · exact ⟨h'.os.trans h.2.os, h'.tape.trans h.2.tape, h'.output.trans h.2.output, Nat.le_trans hf5.size h'.size, fun k hk => (h'.block k (Nat.lt_of_lt_of_le hk hf5.size)).trans (h.2.block k hk)⟩
  · have hlen : i < ms.length := by
      rcases Nat.lt_or_ge i ms.length with h | h
      · exact h
      · rw [List.getElem?_eq_none h] at hx; cases hx
    have hb := lkI_ok (Nat.le_of_lt hlen) h0
    refine CallsR.mono (depth1_ok (lkI ms i).stack.length m.e m.p m.c b4 (lkI ms i).most (by omega) w1 h.1) ?_
    rintro v w2 ⟨rfl, ho, hl⟩
    refine ⟨true, [b4], rfl, hl, by simpa using hlt, ?_⟩
    rw [if_pos rfl, lkI_succ hx, lk_most h0 (by rw [← lkI_succ hx]; exact h1)]
    exact ⟨ho, h.2.step hl (by simpa using hb4)⟩
  · rintro v w' (⟨⟨h1, hf⟩, h2, rfl⟩ | ⟨⟨h1, hf⟩, h2, q, cc, w0, rfl, h4, h5⟩ | ⟨i, q, n, cc, _, _, h, _⟩)
    · rw [if_neg h2]
      refine sgo ?_
      refine wcyes ?_ (ht := by simpa using h2)
      refine sgo ?_
      (first | refine fp1 (.inl rfl) rfl rfl ?_ | refine fp2 (.inl rfl) rfl rfl rfl ?_ | refine fp3 (.inl rfl) rfl rfl rfl rfl ?_ | refine fp0 (.inr rfl) rfl ?_ | refine fp0 (.inl rfl) rfl ?_ | refine fp1 (.inr rfl) rfl rfl ?_); refine ⟨?_, by (first | exact Frm.refl _ | assumption | exact Go.Sv.Sep.frm (by assumption) | (refine Frm.trans ?_ (by assumption); first | exact Frm.refl _ | assumption))⟩; (try simp only [realB, rv_true, Nat.reduceBEq, cond_true, cond_false, entG, real_lif, updGL])
    · rw [if_pos h2]
      rw [lkI_all] at h1
      refine sgo ?_
      (first | refine fp1 (.inl rfl) rfl rfl ?_ | refine fp2 (.inl rfl) rfl rfl rfl ?_ | refine fp3 (.inl rfl) rfl rfl rfl rfl ?_ | refine fp0 (.inr rfl) rfl ?_ | refine fp0 (.inl rfl) rfl ?_ | refine fp1 (.inr rfl) rfl rfl ?_); refine ⟨?_, by (first | exact Frm.refl _ | assumption | exact Go.Sv.Sep.frm (by assumption) | (refine Frm.trans ?_ (by assumption); first | exact Frm.refl _ | assumption))⟩; (try simp only [realB, rv_true, Nat.reduceBEq, cond_true, cond_false, entG, real_lif, updGL])
    · exact h.elim
end Go.Proofs.YthgbpgjpnaanlaaGreatDoor

/-
  Loops over functions, with memory in pieces.
-/
set_option linter.unusedSimpArgs false
set_option linter.unusedVariables false
set_option linter.unnecessarySimpa false
namespace Go.Sv
open Go Go.RowKit
def pLoop (l : Nat) (r : Loop) : Plot where
  foot := [l]
  ok w := LoopAt w l r
  view := (none, [])
  loc _ _ h hb := (hb l (by simp)).trans h
  lt _ h x hx := by rw [List.mem_singleton.1 hx]; exact h.lt
  sg _ _ := .inl rfl
def pDef (D : Nat) : Plot where
  foot := [D]
  ok w := NoDef w D
  view := (none, [])
  loc _ _ h hb := (hb D (by simp)).trans h
  lt _ h x hx := by rw [List.mem_singleton.1 hx]; exact h.lt
  sg _ _ := .inl rfl
section
variable {w0 w w' : World} {cs : List Plot} {l D i : Nat} {r r' : Loop}
theorem Sep.loop (h : Sep w0 w cs) (hf : Frm w w') (hL : LoopAt w' l r) (hN : NoDef w' D) (hl : w.heap.size ≤ l) (hD : w.heap.size ≤ D) (hne : l ≠ D) : Sep w0 w' (pLoop l r :: pDef D :: cs) := by
  refine h.seq (ds := [pLoop l r, pDef D]) ⟨hf, ?_, ?_, ?_⟩
  · intro c hc
    rcases List.mem_cons.1 hc with rfl | hc
    · exact hL
    · rw [List.mem_singleton.1 hc]; exact hN
  · intro c hc x hx
    rcases List.mem_cons.1 hc with rfl | hc
    · rw [List.mem_singleton.1 hx]; exact hl
    · rw [List.mem_singleton.1 hc] at hx; rw [List.mem_singleton.1 hx]; exact hD
  · rw [List.pairwise_cons]
    refine ⟨fun b hb x hx hx' => ?_, List.pairwise_singleton _ _⟩
    rw [List.mem_singleton.1 hb] at hx'
    rw [List.mem_singleton.1 hx] at hx'
    exact hne (List.mem_singleton.1 hx')
/-- a piece that is given away -/
theorem Sep.lose {c : Plot} (h : Sep w0 w (c :: cs)) (hl : Le c.foot w w') : Sep w0 w' cs := by
  have hp := h.apart
  rw [List.pairwise_cons] at hp
  exact h.tail.le hl (fun d hd x hx hm => hp.1 d hd x hm hx) (h.low _ List.mem_cons_self)
theorem Sep.undef (h : Sep w0 w (pDef D :: cs)) : Sep w0 (w.putObj D (.deferred none)) cs := h.lose (le_putObj w D _)
end
end Go.Sv

/-
  Package event: Close; slices.Backward.
-/
set_option linter.unusedSimpArgs false
set_option linter.unusedVariables false
set_option linter.unnecessarySimpa false
namespace Go.Proofs.YthgbpgjpnaanlaaGreatDoor
open Go Go.Sv Go.RowKit












































def closeE (n : List UInt8) : Ev := ⟨2, n, [], []⟩
/-- the events that close, in memory -/
def closeM (n : List UInt8) : EvM := ⟨closeE n, none, 0⟩
/-- what Open tells -/
def openS (k : Lk) : List (List UInt8) := if k.err = 0 then k.stack else []
end Go.Proofs.YthgbpgjpnaanlaaGreatDoor

/-
  Events as lines, many, and read back; what closes events: plain laws.
-/
set_option linter.unusedSimpArgs false
set_option linter.unusedVariables false
set_option linter.unnecessarySimpa false
namespace Go.Proofs.YthgbpgjpnaanlaaGreatDoor
open Go Go.Sv Go.RowKit

def evLn (e : Ev) : List UInt8 := evLine e ++ [10]
def evLns (l : List Ev) : List UInt8 := l.flatMap evLn
def evPF : Nat → List (List UInt8) → List Ev → List Ev × Nat
  | _, [], acc => (acc, 0)
  | n, x :: ls, acc => match evRead x with | none => ([], n) | some e => evPF (n + 1) ls (acc ++ [e])
/-- the events of lines, and the number of the first line that is wrong -/
def evPR (s : List UInt8) : List Ev × Nat := evPF 1 (linesR s) []
end Go.Proofs.YthgbpgjpnaanlaaGreatDoor

/-
  Ranges over maps that the loop leaves alone.
-/
set_option linter.unusedSimpArgs false
set_option linter.unusedVariables false
set_option linter.unnecessarySimpa false
namespace Go.Sv
open Go Go.RowKit

/-- a range over the map in block m, its iterator in block r: these entries are still to come, in whatever order -/
def MIt (w : World) (r m : Nat) (left : List (Value × Value)) : Prop :=
  ∃ es since seen c0 clock, w.heap[r]? = some (.mapIter (some m) since seen c0) ∧ w.heap[m]? = some (.map es clock) ∧ (∀ x ∈ es.toList, x.born < since) ∧ since ≤ c0 ∧ (es.toList.map (·.born)).Nodup ∧ since ≤ clock ∧
    (leftOf es seen).toList.map (fun e => (e.key, e.val)) = left
section
variable {P : Program} {n : Nat} {ds : Ctx} {ops : Array Oper} {Q : Exit → Ctx → Env → World → Prop} {rest : List Oper} {σ : GE} {w w' : World} {d r m : Nat} {t k e ty : TypeId} {pos : String} {af : Array Edge} {x : Operand} {left : List (Value × Value)} {M : List Nat}
theorem MIt.lt (h : MIt w r m left) : r < w.heap.size ∧ m < w.heap.size := by
  obtain ⟨es, since, seen, c0, clock, h1, h2, _⟩ := h
  exact ⟨(Array.getElem?_eq_some_iff.1 h1).1, (Array.getElem?_eq_some_iff.1 h2).1⟩
theorem MIt.le (h : MIt w r m left) (hl : Le M w w') (hr : r ∉ M) (hm : m ∉ M) : MIt w' r m left := by
  obtain ⟨l1, l2⟩ := h.lt
  obtain ⟨es, since, seen, c0, clock, h1, h2, h3⟩ := h
  exact ⟨es, since, seen, c0, clock, (hl.block r l1 hr).trans h1, (hl.block m l2 hm).trans h2, h3⟩
theorem MIt.frm (h : MIt w r m left) (hf : Frm w w') : MIt w' r m left := h.le (M := []) hf.le (by simp) (by simp)
/-- the round's entry -/
def MCur (w : World) (r m : Nat) (kv : Value × Value) : Prop :=
  ∃ (es : Array MapEntry) (since : Nat) (seen : Array Nat) (clock : Nat) (e : MapEntry), w.heap[r]? = some (.mapIter (some m) since (seen.push e.born) clock) ∧ w.heap[m]? = some (.map es clock) ∧ e ∈ es.toList ∧ (es.toList.map (·.born)).Nodup ∧ (e.key, e.val) = kv
theorem wlentry {kv : Value × Value} (hc : MCur w r m kv) (h : WL P n ds ops Q rest (real (updG σ d ⟨.tuple #[kv.1, kv.2], true⟩)) w) (hx : evl (real σ) x = .pointer (pb r) := by rfl) :
    WL P n ds ops Q (⟨some d, .entry x, ty, pos, af, none⟩ :: rest) (real σ) w := by
  obtain ⟨es, since, seen, clock, e, h1, h2, h3, h4, rfl⟩ := hc
  refine wl h (Y.val ?_)
  simp only [execOp, hx, Sem.run_bind]
  rw [show (Instr.entry (.pointer (pb r))).run P w = _ from run_entry_at w r m since seen es clock e h1 h2 h3 h4]
  rfl
/-- the loop's start -/
theorem wlrangem {es : Array MapEntry} {clock : Nat} (hu : P.underlying t = some (.map k e)) (hm : w.heap[m]? = some (.map es clock)) (hb : ∀ x ∈ es.toList, x.born < clock) (hn : (es.toList.map (·.born)).Nodup)
    (h : ∀ r w', w.heap.size ≤ r → MIt w' r m (es.toList.map fun e => (e.key, e.val)) → Frm w w' → WL P n ds ops Q rest (real (updG σ d ⟨.pointer (pb r), true⟩)) w') (hx : evl (real σ) x = .map (some m) := by rfl) :
    WL P n ds ops Q (⟨some d, .range t x, ty, pos, af, none⟩ :: rest) (real σ) w := by
  have hlt : m < w.heap.size := (Array.getElem?_eq_some_iff.1 hm).1
  refine wl (h w.heap.size (w.alloc (.mapIter (some m) clock #[] clock)) (Nat.le_refl _) ⟨es, clock, #[], clock, clock, Go.heap_alloc_new w _, ?_, hb, Nat.le_refl _, hn, Nat.le_refl _, ?_⟩ (frm_alloc _ _)) (Y.val ?_)
  · rw [Go.heap_alloc_old w _ hlt]; exact hm
  · congr 1
    unfold leftOf
    simp
  · simp only [execOp, hx, Sem.run_bind]
    rw [run_range_map w t k e m es clock hu hm]
    rfl
/-- the next entry, whichever, or the end -/
theorem wlnextm (hi : MIt w r m left) (hno : left = [] → WL P n ds ops Q rest (real (updG σ d ⟨.tuple #[.bool false], true⟩)) w)
    (hyes : ∀ kv left' w', kv ∈ left → left'.length < left.length → (∀ y ∈ left', y ∈ left) → (∀ y ∈ left, y = kv ∨ y ∈ left') → MIt w' r m left' → MCur w' r m kv → Le [r] w w' → WL P n ds ops Q rest (real (updG σ d ⟨.tuple #[.bool true, kv.1, kv.2], true⟩)) w')
    (hx : evl (real σ) x = .pointer (pb r) := by rfl) :
    WL P n ds ops Q (⟨some d, .next x false, ty, pos, af, none⟩ :: rest) (real σ) w := by
  have hlt := hi.lt
  obtain ⟨es, since, seen, c0, clock, h1, h2, h3, h4, h5, h6, h7⟩ := hi
  rcases run_next_at (P := P) w ty r m since c0 seen es clock h1 h2 h3 h4 with ⟨hz, hrun⟩ | ⟨e, he, w1, hw1, hrun⟩
  · refine wl (hno ?_) (Y.val ?_)
    · rw [← h7]
      have : (leftOf es seen).toList = [] := List.eq_nil_of_length_eq_zero (by simpa using hz)
      rw [this]; rfl
    · simp only [execOp, hx, Sem.run_bind]
      rw [show (Instr.next (.pointer (pb r)) false ty).run P w = _ from hrun]
      rfl
  · have hrm : r ≠ m := by rintro rfl; rw [h1] at h2; cases h2
    have heL : e ∈ (leftOf es seen).toList := he
    have hmem : ∀ (sn : Array Nat) (y : MapEntry), y ∈ (leftOf es sn).toList ↔ y ∈ es.toList ∧ sn.contains y.born = false := fun sn y => by
      unfold leftOf
      rw [Array.toList_filter, List.mem_filter, Bool.not_eq_true']
    have hpush : ∀ y : Nat, (seen.push e.born).contains y = (seen.contains y || y == e.born) := fun y => by
      rw [Bool.eq_iff_iff]
      simp only [Array.contains_iff_mem, Array.mem_push, Bool.or_eq_true, beq_iff_eq]
    have he0 := (hmem _ _).1 heL
    have hlen : ((leftOf es (seen.push e.born)).toList).length < ((leftOf es seen).toList).length := by
      unfold leftOf
      rw [Array.toList_filter, Array.toList_filter]
      refine filter_lt _ _ (fun y hy => ?_) e ?_ ?_ es.toList he0.1
      · rw [hpush] at hy; simp at hy ⊢; exact hy.1
      · rw [he0.2]; rfl
      · rw [hpush]; simp
    have hw1h : w1.heap = w.heap := by rcases hw1 with rfl | rfl <;> rfl
    have hr1 : r < w1.heap.size := by rw [hw1h]; exact hlt.1
    have hs1 : ∀ o, (ChangeMaps.setBlock w1 r o).heap[r]? = some o := fun o => by
      unfold ChangeMaps.setBlock
      dsimp only
      rw [Array.getElem?_setIfInBounds_self_of_lt hr1]
    have hs2 : ∀ o i, i ≠ r → (ChangeMaps.setBlock w1 r o).heap[i]? = w.heap[i]? := fun o i hi => by
      unfold ChangeMaps.setBlock
      dsimp only
      rw [Array.getElem?_setIfInBounds_ne (fun h => hi h.symm), hw1h]
    refine wl (hyes (e.key, e.val) ((leftOf es (seen.push e.born)).toList.map fun e => (e.key, e.val)) (ChangeMaps.setBlock w1 r (.mapIter (some m) since (seen.push e.born) clock)) ?_ ?_ ?_ ?_ ?_ ?_ ?_) (Y.val ?_)
    · rw [← h7]; exact List.mem_map.2 ⟨e, heL, rfl⟩
    · rw [← h7, List.length_map, List.length_map]; exact hlen
    · intro y hy
      obtain ⟨z, hz, rfl⟩ := List.mem_map.1 hy
      rw [← h7]
      refine List.mem_map.2 ⟨z, ?_, rfl⟩
      obtain ⟨z1, z2⟩ := (hmem _ _).1 hz
      rw [hpush, Bool.or_eq_false_iff] at z2
      exact (hmem _ _).2 ⟨z1, z2.1⟩
    · intro y hy
      rw [← h7] at hy
      obtain ⟨z, hz, rfl⟩ := List.mem_map.1 hy
      obtain ⟨z1, z2⟩ := (hmem _ _).1 hz
      by_cases hb : z.born = e.born
      · left
        have : z = e := by
          have f1 := find_born z es.toList h5 z1
          have f2 := find_born e es.toList h5 he0.1
          rw [hb, f2] at f1
          exact (Option.some.inj f1).symm
        rw [this]
      · right
        refine List.mem_map.2 ⟨z, (hmem _ _).2 ⟨z1, ?_⟩, rfl⟩
        rw [hpush, z2, Bool.false_or, beq_eq_false_iff_ne]
        exact hb
    · exact ⟨es, since, seen.push e.born, clock, clock, hs1 _, by rw [hs2 _ m (Ne.symm hrm)]; exact h2, h3, h6, h5, h6, rfl⟩
    · exact ⟨es, since, seen, clock, e, hs1 _, by rw [hs2 _ m (Ne.symm hrm)]; exact h2, he0.1, h5, rfl⟩
    · refine ⟨?_, ?_, ?_, ?_, fun i _ hi => hs2 _ i (by simpa using hi)⟩
      · rcases hw1 with rfl | rfl <;> rfl
      · rcases hw1 with rfl | rfl <;> rfl
      · rcases hw1 with rfl | rfl <;> rfl
      · unfold ChangeMaps.setBlock; dsimp only; rw [hw1h]; simp
    · simp only [execOp, hx, Sem.run_bind]
      rw [show (Instr.next (.pointer (pb r)) false ty).run P w = _ from hrun]
      rfl
end
end Go.Sv

/-
  Maps with keys that are numbers.
-/
set_option linter.unusedSimpArgs false
set_option linter.unusedVariables false
set_option linter.unnecessarySimpa false
namespace Go.Sv
open Go Go.RowKit

def IMap (w : World) (m : Nat) (kv : List (Int × Value)) : Prop :=
  ∃ es clock, w.heap[m]? = some (.map es clock) ∧ es.toList.map (fun e => (e.key, e.val)) = kv.map (fun x => (Value.int .i64 x.1, x.2)) ∧ (∀ x ∈ es.toList, x.born < clock) ∧ (es.toList.map (·.born)).Nodup
section
variable {P : Program} {w w' : World} {m : Nat} {kv : List (Int × Value)} {s : Int}
theorem IMap.lt (h : IMap w m kv) : m < w.heap.size := by
  obtain ⟨es, cl, h, _⟩ := h
  exact (Array.getElem?_eq_some_iff.1 h).1
theorem IMap.le {M : List Nat} (h : IMap w m kv) (hl : Le M w w') (hm : m ∉ M) : IMap w' m kv := by
  have := h.lt
  obtain ⟨es, cl, h, h2⟩ := h
  exact ⟨es, cl, by rw [hl.block m this hm]; exact h, h2⟩
theorem IMap.frm (h : IMap w m kv) (hl : Frm w w') : IMap w' m kv := h.le (M := []) hl.le (by simp)
theorem same_int {k : IntKind} (a b : Int) : Instr.sameNow (.int k) (.int .i64 a) (.int .i64 b) = some (decide (a = b)) := by
  simp only [Instr.sameNow, if_true]
  congr 1
theorem find_ikv {k : IntKind} : ∀ (es : List MapEntry) (kv : List (Int × Value)) (i : Nat), es.map (fun e => (e.key, e.val)) = kv.map (fun x => (Value.int .i64 x.1, x.2)) →
    ∃ r, Instr.findNow (.int k) (.int .i64 s) es i = some r ∧ r.map (·.2) = kv.lookup s
  | [], kv, i, h => by
    have : kv = [] := by simpa using h.symm
    subst this
    exact ⟨none, rfl, rfl⟩
  | e :: es, [], i, h => by simp at h
  | e :: es, x :: kv, i, h => by
    simp only [List.map_cons, List.cons.injEq, Prod.mk.injEq] at h
    obtain ⟨⟨h1, h2⟩, h3⟩ := h
    obtain ⟨r, hr, hr2⟩ := find_ikv (k := k) es kv (i + 1) h3
    simp only [Instr.findNow, h1, same_int]
    by_cases e1 : s = x.1
    · rw [decide_eq_true e1]
      refine ⟨some (i, e.val), rfl, ?_⟩
      subst e1
      simp [List.lookup, h2]
    · rw [decide_eq_false e1]
      refine ⟨r, hr, ?_⟩
      have : (s == x.1) = false := by simpa using e1
      rw [hr2]
      simp [List.lookup, this]
variable {σ : Env} {d : Option Tmp} {ty t t' kt vt : TypeId} {pos : String} {af : Array Edge} {g : Option (Nat × Bool)} {x y z : Operand} {zv : Value} {size bytes : Nat} {k : IntKind}
theorem y_ilookup [hu : Und P t (.map kt vt)] [hk : Und P kt (.int .i64)] [hi : Inf P vt zv size bytes] (hx : evl σ x = .map (some m)) (hy : evl σ y = .int .i64 s) (hm : IMap w m kv) :
    Y P σ ⟨d, .lookup t x y false, ty, pos, af, g⟩ w ((kv.lookup s).getD zv) w := by
  refine Y.val ?_
  obtain ⟨es, cl, h1, h2, _⟩ := hm
  obtain ⟨r, hr, hr2⟩ := find_ikv (k := .i64) (s := s) es.toList kv 0 h2
  have hc := MapKept.run_checkKey (P := P) (w := w) (k := .int .i64 s) hk.ok (by simp [MapKept.IsKey]) es.isEmpty 9999
  have hf := MapKept.run_findKey (P := P) (w := w) (kt := kt) hk.ok hr
  rw [← hr2]
  simp only [execOp, hx, hy, Instr.lookup, Sem.run_bind, underlying, run_program, Result.andThen_ok, hu.ok, Sem.run_pure, MapKept.run_getObj_map h1, hc, hf]
  cases r with
  | none => simp [run_zeroValue (P := P) (t := vt)]
  | some r => simp
theorem run_imapnew [hu : Und P t (.map kt vt)] [hk : Und P kt (.int .i64)] {v : Value} (hm : IMap w m kv) (hn : kv.lookup s = none) :
    ∃ w', (Instr.mapUpdate t (.map (some m)) (.int .i64 s) v).run P w = .ok () w' ∧ IMap w' m (kv ++ [(s, v)]) ∧ Le [m] w w' := by
  obtain ⟨es, cl, h1, h2, h3, h4⟩ := hm
  obtain ⟨r, hr, hr2⟩ := find_ikv (k := .i64) (s := s) es.toList kv 0 h2
  obtain rfl : r = none := by rw [hn] at hr2; simpa using hr2
  have hc := MapKept.run_checkKey (P := P) (w := w) (k := .int .i64 s) hk.ok (by simp [MapKept.IsKey]) false 9999
  have hf := MapKept.run_findKey (P := P) (w := w) (kt := kt) hk.ok hr
  have hs := MapKept.heap_set (o' := .map (es.push ⟨.int .i64 s, v, cl⟩) (cl + 1)) h1
  refine ⟨{ w with heap := w.heap.setIfInBounds m (.map (es.push ⟨.int .i64 s, v, cl⟩) (cl + 1)) }, ?_, ⟨_, _, hs.1, by simp [h2], ?_, ?_⟩, ⟨rfl, rfl, rfl, by simp, fun k _ hkm => hs.2 k (by simpa using hkm)⟩⟩
  · simp only [Instr.mapUpdate, Sem.run_bind, underlying, run_program, Result.andThen_ok, hu.ok, Sem.run_pure, MapKept.run_getObj_map h1, hc, hf, MapKept.run_setObj_map _ h1]
  · intro x hx
    rw [Array.toList_push, List.mem_append, List.mem_singleton] at hx
    rcases hx with hx | rfl
    · have := h3 x hx; omega
    · exact Nat.lt_succ_self _
  · rw [Array.toList_push, List.map_append, List.nodup_append]
    refine ⟨h4, by simp, fun a ha b hb hab => ?_⟩
    obtain ⟨x, hx, rfl⟩ := List.mem_map.1 ha
    have hb' : b = cl := by simpa using hb
    have := h3 x hx
    omega
end
section
variable {P : Program} {n : Nat} {ds : Ctx} {ops : Array Oper} {Q : Exit → Ctx → Env → World → Prop} {rest : List Oper} {σ : GE} {w : World} {v : Value} {d m : Nat} {ty t kt vt : TypeId} {pos : String} {af : Array Edge} {x y z : Operand} {kv : List (Int × Value)} {s : Int} {k : IntKind} {zv : Value} {size bytes : Nat}
theorem wlimap (h : ∀ m w', w.heap.size ≤ m → IMap w' m [] → Frm w w' → WL P n ds ops Q rest (real (updG σ d ⟨.map (some m), true⟩)) w') :
    WL P n ds ops Q (⟨some d, .makeMap t none, ty, pos, af, none⟩ :: rest) (real σ) w := by
  refine wl (h w.heap.size (w.alloc (.map #[] 0)) (Nat.le_refl _) ⟨#[], 0, Go.heap_alloc_new w _, rfl, by simp, by simp⟩ (frm_alloc _ _)) ?_
  refine Y.val ?_
  simp [execOp, Instr.makeMap, newObj]
  rfl
/-- .. in a literal -/
theorem wliins [hu : Und P t (.map kt vt)] [hk : Und P kt (.int .i64)] (hm : IMap w m kv) (hn : kv.lookup s = none) (h : ∀ w', IMap w' m (kv ++ [(s, v)]) → Le [m] w w' → WL P n ds ops Q rest (real σ) w')
    (hx : evl (real σ) x = .map (some m) := by rfl) (hy : evl (real σ) y = .int .i64 s := by rfl) (hz : evl (real σ) z = v := by rfl) :
    WL P n ds ops Q (⟨none, .insert t x y z, ty, pos, af, none⟩ :: rest) (real σ) w := by
  obtain ⟨w', h1, h2, h3⟩ := run_imapnew (P := P) (t := t) (v := v) hm hn
  refine wl0 (h w' h2 h3) (Y.skip ?_)
  simp only [execOp, hx, hy, hz]
  rw [Sem.run_bind, h1]
  rfl
theorem wlrangei (hu : P.underlying t = some (.map kt vt)) (hm : IMap w m kv) (h : ∀ r w', w.heap.size ≤ r → MIt w' r m (kv.map fun x => (Value.int .i64 x.1, x.2)) → Frm w w' → WL P n ds ops Q rest (real (updG σ d ⟨.pointer (pb r), true⟩)) w') (hx : evl (real σ) x = .map (some m) := by rfl) :
    WL P n ds ops Q (⟨some d, .range t x, ty, pos, af, none⟩ :: rest) (real σ) w := by
  obtain ⟨es, cl, h1, h2, h3, h4⟩ := hm
  refine wlrangem hu h1 h3 h4 (fun r w' hr hi hf => h r w' hr ?_ hf) hx
  rw [← h2]
  exact hi
end
def pIMap (m : Nat) (kv : List (Int × Value)) : Plot where
  foot := [m]
  ok w := IMap w m kv
  view := (none, [])
  loc _ _ h hb := by
    obtain ⟨es, cl, h1, h2⟩ := h
    exact ⟨es, cl, (hb m (by simp)).trans h1, h2⟩
  lt _ h x hx := by rw [List.mem_singleton.1 hx]; exact h.lt
  sg _ _ := .inl rfl
/-- a map that is ranged over, and the range -/
def pMIt (r m : Nat) (left : List (Value × Value)) : Plot where
  foot := [r, m]
  ok w := MIt w r m left
  view := (none, [])
  loc _ _ h hb := by
    obtain ⟨es, since, seen, c0, clock, h1, h2, h3⟩ := h
    exact ⟨es, since, seen, c0, clock, (hb r (by simp)).trans h1, (hb m (by simp)).trans h2, h3⟩
  lt _ h x hx := by
    simp only [List.mem_cons, List.not_mem_nil, or_false] at hx
    rcases hx with rfl | rfl
    · exact h.lt.1
    · exact h.lt.2
  sg _ _ := .inl rfl
end Go.Sv

/-
  Arrays written out; calls of function values in regions that draw.
-/
set_option linter.unusedSimpArgs false
set_option linter.unusedVariables false
set_option linter.unnecessarySimpa false
namespace Go.Sv
open Go Go.RowKit
section
variable {P : Program} {n : Nat} {ds : Ctx} {ops : Array Oper} {Q : Exit → Ctx → Env → World → Prop} {C : World → Prop} {QE : Env → Prop} {rest : List Oper} {σ : GE} {w : World} {v : Value} {d : Nat} {ty t e : TypeId} {pos : String} {af : Array Edge} {x : Operand} {xs : List Operand} {ats : Array TypeId} {zv : Value} {zs : List Value} {bytes bytes' k : Nat}
theorem y_arr {σ : Env} {d : Option Tmp} {g : Option (Nat × Bool)} {ps : List (Nat × Operand)} [hu : Und P t (.array k e)] [hi : Inf P e zv 1 bytes] [hj : Inf P t (.agg ⟨zs⟩) k bytes'] (vs : List Value)
    (hps : ps.map (fun p => (p.1, evl σ p.2)) = enum vs 0) (hk : vs.length = k) (hz : zs.length = k) (h1 : ∀ v ∈ vs, v.cells = #[v]) :
    Y P σ ⟨d, .build t ps.toArray, ty, pos, af, g⟩ w (.agg ⟨vs⟩) w := by
  refine Y.val ?_
  have hf := fill_enum vs 0 zs h1 (by omega)
  have hpa : (ps.toArray.map fun (x : Nat × Operand) => match x with | (i, x) => (i, evl σ x)).toList = enum vs 0 := by rw [← hps]; simp
  simp only [execOp, Instr.build, Sem.run_bind, run_zeroValue (P := P) (t := t), Result.andThen_ok, underlying, run_program, hu.ok, Sem.run_pure, run_sizeOf (P := P) (t := e), Value.cells]
  rw [hpa]
  simp only [Nat.mul_one] at hf ⊢
  rw [hf]
  rw [List.take_zero, List.nil_append, List.drop_eq_nil_of_le (by omega), List.append_nil]
  rfl
end
end Go.Sv

/-
  A builder as a piece of memory.
-/
set_option linter.unusedSimpArgs false
set_option linter.unusedVariables false
set_option linter.unnecessarySimpa false
namespace Go.Sv
open Go Go.RowKit
def pBld (T E : TypeId) (b : Nat) (q : Option Addr) (s : List UInt8) : Plot where
  foot := b :: rb q
  ok w := Bld T E w b q s
  view := (none, [])
  loc w w' h hb := by
    obtain ⟨pv, c, h⟩ := h
    refine ⟨pv, c, h.hp, (hb b List.mem_cons_self).trans h.cell, ⟨h.row.1, ?_⟩, h.ne⟩
    rcases h.row.2 with h1 | ⟨g, cap, cur, hv, h2, h3, h4⟩
    · exact .inl h1
    · exact .inr ⟨g, cap, cur, hv, h2, (hb g (List.mem_cons_of_mem _ (rb_own.1 (by rw [hv]; rfl)))).trans h3, h4⟩
  lt w h := h.lt
  sg _ _ := .inl rfl
section
variable {w0 w w' : World} {cs : List Plot} {T E : TypeId} {b : Nat} {q q' : Option Addr} {s s' : List UInt8}
theorem Sep.bld (h : Sep w0 w cs) (i : Nat) (hi : cs[i]? = some (pBld T E b q s)) : Bld T E w b q s := h.at (c := pBld T E b q s) i hi
theorem Sep.toBld (h : Sep w0 w cs) (i : Nat) (hi : cs[i]? = some (pBld T E b q s)) (hl : Lm (b :: rb q) w (b :: rb q') w') (hB : Bld T E w' b q' s') : Sep w0 w' (cs.set i (pBld T E b q' s')) :=
  h.upd (c := pBld T E b q s) (c' := pBld T E b q' s') i hi hl hB
/-- what is above a place is given away -/
theorem Sep.below {B : Nat} (h : Sep w0 w cs) (hB : w0.heap.size ≤ B) (hc : ∀ c ∈ cs, ∀ x ∈ c.foot, x < B) (hb : Below B w w') : Sep w0 w' cs :=
  ⟨Below.trans h.frm (hb.mono hB), fun c hcc => c.loc w w' (h.ok c hcc) fun x hx => hb.block x (hc c hcc x hx), h.low, h.apart⟩
end
end Go.Sv

/-
  Regions that draw their order, whatever they make: by a plan that says of each operation what it yields, makes and takes.
-/
set_option linter.unusedSimpArgs false
set_option linter.unusedVariables false
set_option linter.unnecessarySimpa false
namespace Go.Sv
open Go Go.RowKit

theorem Sep.perm {w0 w : World} {cs ds : List Plot} (h : Sep w0 w cs) (hp : cs.Perm ds) : Sep w0 w ds :=
  ⟨h.frm, fun c hc => h.ok c (hp.mem_iff.2 hc), fun c hc => h.low c (hp.mem_iff.2 hc), hp.pairwise h.apart fun h x hx hx' => h x hx' hx⟩
theorem filter_insert {α : Type} [DecidableEq α] {k : α} {q : α → Bool} (hq : q k = false) : ∀ {l : List α}, l.Nodup → k ∈ l → (l.filter fun j => decide (j = k) || q j).Perm (k :: l.filter q)
  | [], _, h => by cases h
  | x :: l, hn, hm => by
    rw [List.nodup_cons] at hn
    by_cases e : x = k
    · subst e
      have hrest : l.filter (fun j => decide (j = x) || q j) = l.filter q := by
        refine List.filter_congr fun j hj => ?_
        have : j ≠ x := fun h => hn.1 (h ▸ hj)
        simp [this]
      simp only [List.filter_cons, decide_true, Bool.true_or, if_true, hq, Bool.false_eq_true, if_false, hrest]
      exact List.Perm.refl _
    · have hm' : k ∈ l := by
        rcases List.mem_cons.1 hm with h | h
        · exact absurd h.symm e
        · exact h
      have ih := filter_insert hq hn.2 hm'
      simp only [List.filter_cons, decide_eq_false e, Bool.false_or]
      cases q x with
      | false => simpa using ih
      | true => simpa using (ih.cons x).trans (List.Perm.swap k x _)

structure Plan (D : Type) where
  val : Nat → D → Value
  pl : Nat → D → List Plot
  con : Nat → Option Nat
  fact : Nat → (Nat → D) → Prop
section
variable {D : Type}
def setD (a : Nat → D) (k : Nat) (d : D) : Nat → D := fun j => if j = k then d else a j
theorem setD_same (a : Nat → D) (k : Nat) (d : D) : setD a k d k = d := if_pos rfl
theorem setD_ne (a : Nat → D) {k j : Nat} (d : D) (h : j ≠ k) : setD a k d j = a j := if_neg h
def Plan.live (p : Plan D) (L : Nat → Bool) (j : Nat) : Bool := L j && (match p.con j with | some c => !L c | none => true)
def Plan.mem (p : Plan D) (n : Nat) (L : Nat → Bool) (a : Nat → D) : List Plot := ((List.range n).filter (p.live L)).flatMap fun j => p.pl j (a j)
/-- what operation k takes -/
def Plan.takes (p : Plan D) (n k : Nat) (a : Nat → D) : List Plot := ((List.range n).filter fun j => decide (p.con j = some k)).flatMap fun j => p.pl j (a j)
def Plan.S (p : Plan D) (w0 : World) (cs : List Plot) (σ0 : Env) (ops : List Oper) (L : Nat → Bool) (σ : Env) (w : World) : Prop :=
  (∀ s, (∀ (k : Nat) (o : Oper), ops[k]? = some o → o.dst ≠ some s) → σ s = σ0 s) ∧
  ∃ a : Nat → D, (∀ (k : Nat) (o : Oper), ops[k]? = some o → L k = true → (∀ d, o.dst = some d → σ d = p.val k (a k)) ∧ p.fact k a) ∧ Sep w0 w (p.mem ops.length L a ++ cs)
/-- how operation k goes, by the plan -/
def Plan.Rule (p : Plan D) (P : Program) (w0 : World) (cs : List Plot) (σ0 : Env) (ops : List Oper) (k : Nat) (o : Oper) : Prop :=
  ∀ (a : Nat → D) (σ : Env) (w : World) (rest : List Plot), (∀ s, (∀ (k : Nat) (o : Oper), ops[k]? = some o → o.dst ≠ some s) → σ s = σ0 s) →
    (∀ (j : Nat) (oj : Oper), bindsOn o j = true → ops[j]? = some oj → (∀ d, oj.dst = some d → σ d = p.val j (a j)) ∧ p.fact j a) → Sep w0 w (p.takes ops.length k a ++ (cs ++ rest)) →
    (Region.wanted o (yl ops.toArray σ) = true ∧ comes P (fun v w' => ∃ d, v = p.val k d ∧ p.fact k (setD a k d) ∧ Sep w0 w' (p.pl k d ++ (cs ++ rest))) ((execOp (evl σ) o).run P w)) ∨
    (Region.wanted o (yl ops.toArray σ) = false ∧ ∃ d, undef = p.val k d ∧ p.fact k (setD a k d) ∧ Sep w0 w (p.pl k d ++ (cs ++ rest)))
def Plan.Rules (p : Plan D) (P : Program) (w0 : World) (cs : List Plot) (σ0 : Env) (ops : List Oper) : Nat → List Oper → Prop
  | _, [] => True
  | k, o :: l => p.Rule P w0 cs σ0 ops k o ∧ p.Rules P w0 cs σ0 ops (k + 1) l
/-- the plan's book-keeping: whoever takes waits; targets differ -/
def planB (con : Nat → Option Nat) (ops : List Oper) : Bool :=
  (List.range ops.length).all fun j => (match con j with
    | some c => decide (c < ops.length) && (match ops[c]? with | some oc => bindsOn oc j | none => false)
    | none => true) && (List.range ops.length).all fun i => decide (i = j) || (match ops[i]?, ops[j]? with
      | some oi, some oj => (match oi.dst with | some d => decide (oj.dst ≠ some d) | none => true)
      | _, _ => true)
theorem comes_mono {P : Program} {T T' : Value → World → Prop} (h : ∀ v w, T v w → T' v w) : ∀ {r : Result Next}, comes P T r → comes P T' r := by
  intro r hr
  unfold comes at *
  split at hr
  · exact h _ _ hr
  · exact h _ _ hr
  · exact Calls.mono hr fun e w ⟨v, he, hv⟩ => ⟨v, he, h _ _ hv⟩
  · exact hr.elim
end
end Go.Sv
namespace Go.Sv
open Go Go.RowKit
theorem frameOf {σ : Env} (sl : List (Nat × Value)) (h : Has σ sl) : σ = real (updGL (lif σ) sl) := by rw [← real_updL, updL_has h]
theorem notDst {ops : List Oper} {s : Nat} (h : (ops.all fun o => decide (o.dst ≠ some s)) = true) : ∀ (k : Nat) (o : Oper), ops[k]? = some o → o.dst ≠ some s := fun k o hk =>
  of_decide_eq_true (List.all_eq_true.1 h o (List.mem_of_getElem? hk))
section
variable {D : Type} {P : Program} {w0 w w' : World} {cs rest : List Plot} {σ : Env} {d : Option Tmp} {op : Op} {ty : TypeId} {pos : String} {af : Array Edge} {v : Value} {k : Nat} {ops : Array Oper} {T : Value → World → Prop}
/-- an operation of a plan, that has no guard -/
theorem rule_y {B : Prop} {o : Oper} (hy : Y P σ o w v w') (hT : T v w') (hg : o.guard = none := by rfl) :
    (Region.wanted o (yl ops σ) = true ∧ comes P T ((execOp (evl σ) o).run P w)) ∨ B := .inl ⟨by simp [Region.wanted, hg], comes_of_Y hy hT⟩
theorem rule_call {B : Prop} {f : FuncId} [hf : Fnc P f] {args : List Operand} {ats : Array TypeId} {vals : List Value} {R : Value → World → Prop} (hc : CallsR P f vals.toArray w R) (hT : ∀ v w', R v w' → T v w') (ha : args.map (evl σ) = vals) :
    (Region.wanted (⟨d, .call ⟨.value (.func f), args.toArray, ats⟩, ty, pos, af, none⟩ : Oper) (yl ops σ) = true ∧ comes P T ((execOp (evl σ) ⟨d, .call ⟨.value (.func f), args.toArray, ats⟩, ty, pos, af, none⟩).run P w)) ∨ B := by
  refine .inl ⟨by simp [Region.wanted], ?_⟩
  rw [run_call_func]
  have : (args.toArray.map (evl σ)) = vals.toArray := by rw [← ha]; simp
  rw [this]
  exact Calls.mono hc fun e w'' ⟨v, he, hv⟩ => ⟨v, he, hT v w'' hv⟩
variable {t t' e e' : TypeId} {x y : Operand} {zv u : Value} {size bytes i m n c c' : Nat} {p q : Option Addr} {xs news vs : List Value}
/-- a slice written out, of one struct: its piece -/
theorem y_bs1 [hu : Und P t (.slice e)] [hi : Inf P e zv size bytes] (hS : Sep w0 w cs) (hx : evl σ x = .agg ⟨vs⟩) (hv : vs.length = size) (hz : zv.cells.size = size) (hsz : 0 < size) (hm : size ≤ 16777216) :
    ∃ b w', Y P σ ⟨d, .buildSlice t 1 #[(0, x)], ty, pos, af, none⟩ w (.slice (pb b) 1 1) w' ∧ Sep w0 w' (pOwn b vs :: cs) := by
  refine ⟨w.heap.size, w.alloc (.cells ⟨vs⟩ e), Y.val ?_, hS.push (frm_alloc _ _) (own_alloc _ _ _) (by simp [pOwn])⟩
  simp only [execOp, List.map_toArray, List.map_cons, List.map_nil, hx, Sem.run_bind]
  rw [run_buildSlice1 (P := P) (t := t) (e := e) hz (by simpa [Value.cells] using hv) hsz hm]
  rfl
/-- append to the i-th piece -/
theorem y_app [hu : Und P t (.slice e)] [hu' : Und P t' (.slice e')] [hi : Inf P e zv size bytes] (hS : Sep w0 w cs) (i : Nat) (hs : Sg w q news) (hc : cs[i]? = some (pRow size p m c xs)) (hx : evl σ x = .slice p m c) (hy : evl σ y = .slice q n c') (hl : news.length = n * size)
    (h1 : ∀ u ∈ news, u.oneCell' = true) (hz : zv.cells.size = size) (hsz : 0 < size) (hb : (m + n) * bytes ≤ 140737488355328 ∧ m + n ≤ 9223372036854775807) :
    ∃ p' c2 w', Y P σ ⟨d, .call ⟨.builtin .append, #[x, y], #[t, t']⟩, ty, pos, af, none⟩ w (.slice p' (m + n) c2) w' ∧ Sep w0 w' (cs.set i (pRow size p' (m + n) c2 (xs ++ news))) := by
  obtain ⟨p', c2, w', h2, h3, h4⟩ := run_append_row (P := P) (t := t) (tx := t') (ty := ty) (e := e) hz hsz (hS.row i hc) (src_of_sg (tx := t') (c := c') hs hl h1) hb.2 hb.1
  exact ⟨p', c2, w', run_append_op hx hy h2, hS.upd i hc h4 h3⟩
end
end Go.Sv

/-
  Structs of texts, numbers and bools compared.
-/
set_option linter.unusedSimpArgs false
set_option linter.unusedVariables false
set_option linter.unnecessarySimpa false
namespace Go.Sv
open Go Go.RowKit
def plainB (P : Program) : List Field → Nat → List TypeDesc → Bool
  | [], _, [] => true
  | f :: fs, k, d :: ds => (f.name != "_") && (f.offset == k) && (match P.underlying f.type, d with
    | some .string, .string => true
    | some .bool, .bool => true
    | some (.int a), .int b => kEq a b
    | _, _ => false) && plainB P fs (k + 1) ds
  | _, _, _ => false
/-- a struct whose fields are one cell each: texts, bools, numbers -/
class PlainS (P : Program) (t : TypeId) (ds : outParam (List TypeDesc)) : Prop where
  ok : ∃ fs, P.underlying t = some (.struct fs) ∧ plainB P fs.toList 0 ds = true ∧ P.stoodInHeld t = false ∧ P.eqGuardType P.depth t = false
/-- are two structs the same? -/
def eqL : List TypeDesc → List Value → List Value → Option Bool
  | [], [], [] => some true
  | .string :: ds, .string ⟨⟨a⟩⟩ :: xs, .string ⟨⟨b⟩⟩ :: ys => match eqL ds xs ys with | some r => some (decide (a = b) && r) | none => none
  | .bool :: ds, .bool a :: xs, .bool b :: ys => match eqL ds xs ys with | some r => some (decide (a = b) && r) | none => none
  | .int k :: ds, .int k1 a :: xs, .int k2 b :: ys => match kEq k k1, kEq k k2, eqL ds xs ys with | true, true, some r => some (decide (a = b) && r) | _, _, _ => none
  | _, _, _ => none
section
variable {P : Program} {w : World}
theorem run_part {t : TypeId} {d : TypeDesc} (hu : P.underlying t = some d) (hd : (match d with | .struct _ | .array _ _ => true | _ => false) = false) {cs : Array Value} {off : Nat} {v : Value} (hv : cs[off]? = some v) : (part t cs off).run P w = .ok v w := by
  have hi : (isAgg t).run P w = .ok false w := by
    simp only [isAgg, underlying, Sem.run_bind, run_program, Result.andThen_ok, hu, Sem.run_pure]
    rw [← hd]
    cases d <;> rfl
  simp [part, hi, hv]
theorem str_beq (a b : List UInt8) : ((ByteArray.mk ⟨a⟩).toList == (ByteArray.mk ⟨b⟩).toList) = decide (a = b) := by
  rw [ByteArray.toList_eq, ByteArray.toList_eq]
  exact lbeq a b
theorem eqFields_plain (d : Nat) (X Y : Array Value) : ∀ (fs : List Field) (k : Nat) (ds : List TypeDesc) (xs ys : List Value) (r : Bool), plainB P fs k ds = true → X.toList.drop k = xs → Y.toList.drop k = ys → eqL ds xs ys = some r →
    (Op.eqFields (d + 1) X Y fs).run P w = .ok r w := by
  intro fs
  induction fs with
  | nil =>
    intro k ds xs ys r hp hX hY he
    cases ds with
    | nil =>
      cases xs <;> cases ys <;> simp [eqL] at he
      subst he; rfl
    | cons d ds => simp [plainB] at hp
  | cons f fs ih =>
    intro k ds xs ys r hp hX hY he
    cases ds with
    | nil => simp [plainB] at hp
    | cons d0 ds =>
      simp only [plainB, Bool.and_eq_true] at hp
      obtain ⟨⟨⟨hn, ho⟩, ht⟩, hp⟩ := hp
      have hn' : f.name ≠ "_" := by simpa using hn
      have ho' : f.offset = k := by simpa using ho
      have tailX : ∀ v l, xs = v :: l → X[k]? = some v ∧ X.toList.drop (k + 1) = l := by
        intro v l h
        rw [h] at hX
        have h1 : X.toList[k]? = some v := by
          have := congrArg (·[0]?) hX
          simpa using this
        refine ⟨by simpa using h1, ?_⟩
        have := congrArg (List.drop 1) hX
        simpa [Nat.add_comm] using this
      have tailY : ∀ v l, ys = v :: l → Y[k]? = some v ∧ Y.toList.drop (k + 1) = l := by
        intro v l h
        rw [h] at hY
        have h1 : Y.toList[k]? = some v := by
          have := congrArg (·[0]?) hY
          simpa using this
        refine ⟨by simpa using h1, ?_⟩
        have := congrArg (List.drop 1) hY
        simpa [Nat.add_comm] using this
      simp only [Op.eqFields, if_pos hn', ho']
      unfold eqL at he
      split at he
      · contradiction
      · rename_i ds' a xs' b ys' hq
        injection hq with q1 q2
        subst q1 q2
        obtain ⟨x1, x2⟩ := tailX _ _ rfl
        obtain ⟨y1, y2⟩ := tailY _ _ rfl
        have hu : P.underlying f.type = some .string := by
          revert ht
          cases P.underlying f.type with
          | none => intro h; cases h
          | some u => cases u <;> intro h <;> first | rfl | cases h
        split at he
        · rename_i r' hr'
          obtain rfl := Option.some.inj he
          have := ih (k + 1) _ xs' ys' r' hp x2 y2 hr'
          simp only [Sem.run_bind, run_part hu rfl x1, run_part hu rfl y1, Result.andThen_ok, run_equalIn_string w d f.type _ _ hu, str_beq]
          cases decide (a = b) <;> simp [this]
        · cases he
      · rename_i ds' a xs' b ys' hq
        injection hq with q1 q2
        subst q1 q2
        obtain ⟨x1, x2⟩ := tailX _ _ rfl
        obtain ⟨y1, y2⟩ := tailY _ _ rfl
        have hu : P.underlying f.type = some .bool := by
          revert ht
          cases P.underlying f.type with
          | none => intro h; cases h
          | some u => cases u <;> intro h <;> first | rfl | cases h
        split at he
        · rename_i r' hr'
          obtain rfl := Option.some.inj he
          have := ih (k + 1) _ xs' ys' r' hp x2 y2 hr'
          have hbb : (a == b) = decide (a = b) := by cases a <;> cases b <;> rfl
          simp only [Sem.run_bind, run_part hu rfl x1, run_part hu rfl y1, Result.andThen_ok, run_equalIn_bool' w d f.type _ _ hu, hbb]
          cases decide (a = b) <;> simp [this]
        · cases he
      · rename_i kk ds' k1 a xs' k2 b ys' hq
        injection hq with q1 q2
        subst q1 q2
        obtain ⟨x1, x2⟩ := tailX _ _ rfl
        obtain ⟨y1, y2⟩ := tailY _ _ rfl
        split at he
        · rename_i r' e1 e2 hr'
          obtain rfl := Option.some.inj he
          obtain rfl := kEq_eq e1
          obtain rfl := kEq_eq e2
          have hu : P.underlying f.type = some (.int kk) := by
            revert ht
            cases P.underlying f.type with
            | none => intro h; cases h
            | some u => cases u <;> intro h <;> first | (rw [kEq_eq h]) | cases h
          have := ih (k + 1) _ xs' ys' r' hp x2 y2 hr'
          have hbb : (a == b) = decide (a = b) := by by_cases e : a = b <;> simp [e]
          simp only [Sem.run_bind, run_part hu rfl x1, run_part hu rfl y1, Result.andThen_ok, run_equalIn_int w d f.type _ _ _ _ hu, hbb]
          cases decide (a = b) <;> simp [this]
        · cases he
      · cases he
variable {σ : Env} {d : Option Tmp} {ty t t' : TypeId} {pos : String} {af : Array Edge} {g : Option (Nat × Bool)} {x y : Operand} {ds : List TypeDesc} {xs ys : List Value} {r : Bool}
theorem run_eqS [h : PlainS P t ds] (he : eqL ds xs ys = some r) (k : Nat) : (Op.equalIn (k + 2) t (.agg ⟨xs⟩) (.agg ⟨ys⟩)).run P w = .ok r w := by
  obtain ⟨fs, h1, h2, h3, _⟩ := h.ok
  have hf : P.fieldsOf t = fs := by simp [Program.fieldsOf, h1]
  rw [run_equalIn_struct w (k + 1) t _ _ (by rw [hf]; exact h1) h3, hf]
  exact eqFields_plain k ⟨xs⟩ ⟨ys⟩ fs.toList 0 ds xs ys r h2 rfl rfl he
theorem y_aneq [h : PlainS P t ds] (hx : evl σ x = .agg ⟨xs⟩) (hy : evl σ y = .agg ⟨ys⟩) (he : eqL ds xs ys = some r) : Y P σ ⟨d, .binOp .neq t x y t', ty, pos, af, g⟩ w (.bool (!r)) w := by
  obtain ⟨fs, h1, h2, h3, h4⟩ := h.ok
  refine Y.val ?_
  simp only [execOp, hx, hy, Sem.run_bind, run_eqGuard_agg w .neq t x y _ _ h4, Result.andThen_ok, run_neq_struct]
  rw [show (10000 : Nat) = 9998 + 2 from rfl, run_eqS he]
  rfl
end
end Go.Sv

/- This seat's plain structs as instances (made by a program of ours). -/
namespace Go.Proofs.YthgbpgjpnaanlaaGreatDoor
open Go Go.Sv
instance : PlainS Tryz.prog 48 [.int .i64, .int .i64, .int .i64] := ⟨_, Tryz.underlying48, by kernel_rfl, by kernel_rfl, by kernel_rfl⟩
instance : PlainS Tryz.prog 49 [.int .i64, .int .i64, .int .i64] := ⟨_, Tryz.underlying49, by kernel_rfl, by kernel_rfl, by kernel_rfl⟩
instance : PlainS Tryz.prog 73 [.string, .string] := ⟨_, Tryz.underlying73, by kernel_rfl, by kernel_rfl, by kernel_rfl⟩
instance : PlainS Tryz.prog 74 [.string, .string] := ⟨_, Tryz.underlying74, by kernel_rfl, by kernel_rfl, by kernel_rfl⟩
instance : PlainS Tryz.prog 112 [.int .i32, .int .i64, .int .i64, .bool] := ⟨_, Tryz.underlying112, by kernel_rfl, by kernel_rfl, by kernel_rfl⟩
instance : PlainS Tryz.prog 113 [.int .i32, .int .i64, .int .i64, .bool] := ⟨_, Tryz.underlying113, by kernel_rfl, by kernel_rfl, by kernel_rfl⟩
instance : PlainS Tryz.prog 141 [.string] := ⟨_, Tryz.underlying141, by kernel_rfl, by kernel_rfl, by kernel_rfl⟩
instance : PlainS Tryz.prog 142 [.string] := ⟨_, Tryz.underlying142, by kernel_rfl, by kernel_rfl, by kernel_rfl⟩
end Go.Proofs.YthgbpgjpnaanlaaGreatDoor

/-
  sieveref18: Same, Equal, Ends; sievelaw18: own, same.
-/
set_option linter.unusedSimpArgs false
set_option linter.unusedVariables false
set_option linter.unnecessarySimpa false
namespace Go.Proofs.YthgbpgjpnaanlaaGreatDoor
open Go Go.Sv Go.RowKit

theorem att_at {es : List At} {i : Nat} {x : At} (h : es[i]? = some x) : ((es.flatMap At.cells).drop (i * 2)).take 2 = x.cells := fm_seg At.len es h
set_option maxHeartbeats 2000000 in
theorem evSame_ok (a b : EvM) (ha : a.e.small) (hb : b.e.small) (w : World) (hi : Im [] w a.p (a.e.attrs.flatMap At.cells)) (hj : Im [] w b.p (b.e.attrs.flatMap At.cells)) :
    PureC Tryz.prog 26 #[.agg ⟨a.cells⟩, .agg ⟨b.cells⟩] w (.bool (decide (a.e = b.e))) := by
  obtain ⟨⟨ka, na, ta, es⟩, pa, ca⟩ := a
  obtain ⟨⟨kb, nb, tb, fs⟩, pb', cb⟩ := b
  have h1 := ha.attrs
  have h2 := hb.attrs
  dsimp only at hi hj h1 h2
  have hl1 := fm_len At.len es
  have hl2 := fm_len At.len fs
  refine enter (l := [.agg ⟨EvM.cells ⟨⟨ka, na, ta, es⟩, pa, ca⟩⟩, .agg ⟨EvM.cells ⟨⟨kb, nb, tb, fs⟩, pb', cb⟩⟩]) Tryz.func26 rfl Tryz.ntmps26 (by kernel_rfl) rfl ?_
  have hS := Sep.start w
  refine WC_seq ?_
  refine WC_region ?_
  refine sbox (v := .agg ⟨EvM.cells ⟨⟨ka, na, ta, es⟩, pa, ca⟩⟩) hS fun b2 w1 hS => ?_
  replace hS : Sep w w1 [pOwn b2 [int ka, str na, str ta, .slice pa es.length ca]] := hS
  refine sbox (v := .agg ⟨EvM.cells ⟨⟨kb, nb, tb, fs⟩, pb', cb⟩⟩) hS fun b3 w2 hS => ?_
  replace hS : Sep w w2 [pOwn b3 [int kb, str nb, str tb, .slice pb' fs.length cb], pOwn b2 [int ka, str na, str ta, .slice pa es.length ca]] := hS
  refine sgo ?_
  (show WC _ _ _ _ _ _ _; first | refine WC_dec rfl (fun hc => ?_) (fun hc => ?_) | refine WC_cond rfl (fun hc => ?_) (fun hc => ?_))
  · have hne : (⟨ka, na, ta, es⟩ : Ev) ≠ ⟨kb, nb, tb, fs⟩ := by
      intro h
      injection h with e1 e2 e3 e4
      subst e1 e2 e3 e4
      simp [pkb_or] at hc
    refine sgo ?_
    (first | refine fp1 (.inl rfl) rfl rfl ?_ | refine fp2 (.inl rfl) rfl rfl rfl ?_ | refine fp3 (.inl rfl) rfl rfl rfl rfl ?_ | refine fp0 (.inr rfl) rfl ?_ | refine fp0 (.inl rfl) rfl ?_ | refine fp1 (.inr rfl) rfl rfl ?_); refine ⟨?_, by (first | exact Frm.refl _ | assumption | exact Go.Sv.Sep.frm (by assumption) | (refine Frm.trans ?_ (by assumption); first | exact Frm.refl _ | assumption))⟩; (try simp only [realB, rv_true, Nat.reduceBEq, cond_true, cond_false, entG, real_lif, updGL])
    rw [decide_eq_false hne]
  · simp only [pkb_or, Bool.or_eq_false_iff, decide_eq_false_iff_not, Decidable.not_not] at hc
    obtain ⟨⟨⟨rfl, rfl⟩, rfl⟩, hlen⟩ := hc
    have hle : es.length = fs.length := by omega
    clear hlen
    refine sgo ?_
    refine wcloop (X := Nat) (fun i => [(2, ptrAt (pb b2) 0), (3, ptrAt (pb b3) 0), (36, int es.length), (37, int i)])
      (fun i wr => i ≤ es.length ∧ es.take i = fs.take i ∧ Sep w wr [pOwn b3 [int ka, str na, str ta, .slice pb' fs.length cb], pOwn b2 [int ka, str na, str ta, .slice pa es.length ca]]) (fun i => es.length - i) 0 ⟨rfl, rfl, rfl, rfl, trivial⟩ ⟨Nat.zero_le _, rfl, hS⟩ ?_
    clear hS
    rintro i wr ρ ⟨hil, hpre, hS⟩
    refine sgo ?_
    (show WC _ _ _ _ _ _ _; first | refine WC_dec rfl (fun hc => ?_) (fun hc => ?_) | refine WC_cond rfl (fun hc => ?_) (fun hc => ?_))
    · have hlt : i < es.length := by omega
      have hx : es[i]? = some es[i] := List.getElem?_eq_getElem hlt
      have hy : fs[i]? = some fs[i] := List.getElem?_eq_getElem (by omega)
      have hsx := att_at hx
      have hsy := att_at hy
      have hpa : ∃ a, pa = some a := hi.some (by omega)
      have hpb : ∃ a, pb' = some a := hj.some (by omega)
      have htx : es.take (i + 1) = es.take i ++ [es[i]] := by rw [List.take_add_one, hx]; rfl
      have hty : fs.take (i + 1) = fs.take i ++ [fs[i]] := by rw [List.take_add_one, hy]; rfl
      generalize es[i] = x at *
      generalize fs[i] = y at *
      clear hc
      refine sgo ?_
      refine wcdraw ?_
      refine qgo ?_
      rw [hsx, hsy]
      refine ql (v := .bool (!(decide (x.n = y.n) && (decide (x.v = y.v) && true)))) ?_ (YQ.ofY fun w _ => y_aneq rfl rfl rfl)
      refine QL_nil ?_
      intro w3 hf3
      replace hS := hS.grow hf3
      obtain ⟨xn, xv⟩ := x
      obtain ⟨yn, yv⟩ := y
      refine sgo ?_
      (show WC _ _ _ _ _ _ _; first | refine WC_dec rfl (fun hc => ?_) (fun hc => ?_) | refine WC_cond rfl (fun hc => ?_) (fun hc => ?_))
      · have hne : (⟨ka, na, ta, es⟩ : Ev) ≠ ⟨ka, na, ta, fs⟩ := by
          intro h
          injection h with e1 e2 e3 e4
          subst e4
          rw [hx] at hy
          injection hy with hy
          injection hy with e1 e2
          subst e1 e2
          simp at hc
        refine sgo ?_
        (first | refine fp1 (.inl rfl) rfl rfl ?_ | refine fp2 (.inl rfl) rfl rfl rfl ?_ | refine fp3 (.inl rfl) rfl rfl rfl rfl ?_ | refine fp0 (.inr rfl) rfl ?_ | refine fp0 (.inl rfl) rfl ?_ | refine fp1 (.inr rfl) rfl rfl ?_); refine ⟨?_, by (first | exact Frm.refl _ | assumption | exact Go.Sv.Sep.frm (by assumption) | (refine Frm.trans ?_ (by assumption); first | exact Frm.refl _ | assumption))⟩; (try simp only [realB, rv_true, Nat.reduceBEq, cond_true, cond_false, entG, real_lif, updGL])
        rw [decide_eq_false hne]
      · refine sgo ?_
        refine ⟨i + 1, ⟨rfl, rfl, rfl, rfl, trivial⟩, ⟨hlt, ?_, hS⟩, (by (try dsimp only); omega)⟩
        rw [htx, hty, hpre]
        simp at hc
        rw [hc.1, hc.2]
    · obtain rfl : i = es.length := by omega
      rw [List.take_length, hle, List.take_length] at hpre
      refine sgo ?_
      (first | refine fp1 (.inl rfl) rfl rfl ?_ | refine fp2 (.inl rfl) rfl rfl rfl ?_ | refine fp3 (.inl rfl) rfl rfl rfl rfl ?_ | refine fp0 (.inr rfl) rfl ?_ | refine fp0 (.inl rfl) rfl ?_ | refine fp1 (.inr rfl) rfl rfl ?_); refine ⟨?_, by (first | exact Frm.refl _ | assumption | exact Go.Sv.Sep.frm (by assumption) | (refine Frm.trans ?_ (by assumption); first | exact Frm.refl _ | assumption))⟩; (try simp only [realB, rv_true, Nat.reduceBEq, cond_true, cond_false, entG, real_lif, updGL])
      rw [hpre, decide_eq_true rfl]
set_option maxHeartbeats 1000000 in
theorem evEqual_ok (ms ns : List EvM) (p q : Option Addr) (c cc : Nat) (h1 : ms.length ≤ 1048577) (h2 : ns.length ≤ 1048577) (hs : ∀ m ∈ ms, m.e.small) (hs2 : ∀ m ∈ ns, m.e.small) (w : World) (hE : Evs w p ms) (hF : Evs w q ns) :
    PureC Tryz.prog 9 #[.slice p ms.length c, .slice q ns.length cc] w (.bool (decide (evs ms = evs ns))) := by
  refine enter (l := [.slice p ms.length c, .slice q ns.length cc]) Tryz.func9 rfl Tryz.ntmps9 (by kernel_rfl) rfl ?_
  refine sgo ?_
  (show WC _ _ _ _ _ _ _; first | refine WC_dec rfl (fun hc => ?_) (fun hc => ?_) | refine WC_cond rfl (fun hc => ?_) (fun hc => ?_))
  · have hne : evs ms ≠ evs ns := by
      intro h
      have := congrArg List.length h
      rw [evs_len, evs_len] at this
      have hc' : ¬ ((ms.length : Int) = ns.length) := hc
      omega
    refine sgo ?_
    (first | refine fp1 (.inl rfl) rfl rfl ?_ | refine fp2 (.inl rfl) rfl rfl rfl ?_ | refine fp3 (.inl rfl) rfl rfl rfl rfl ?_ | refine fp0 (.inr rfl) rfl ?_ | refine fp0 (.inl rfl) rfl ?_ | refine fp1 (.inr rfl) rfl rfl ?_); refine ⟨?_, by (first | exact Frm.refl _ | assumption | exact Go.Sv.Sep.frm (by assumption) | (refine Frm.trans ?_ (by assumption); first | exact Frm.refl _ | assumption))⟩; (try simp only [realB, rv_true, Nat.reduceBEq, cond_true, cond_false, entG, real_lif, updGL])
    rw [decide_eq_false hne]
  have hle : ms.length = ns.length := by
    have : ¬ ((ms.length : Int) ≠ ns.length) := hc
    omega
  clear hc
  refine sgo ?_
  refine wcloop (X := Nat) (fun i => [(0, .slice p ms.length c), (1, .slice q ns.length cc), (12, int ms.length), (13, int i)])
    (fun i wr => i ≤ ms.length ∧ (evs ms).take i = (evs ns).take i ∧ Frm w wr) (fun i => ms.length - i) 0 ⟨rfl, rfl, rfl, rfl, trivial⟩ ⟨Nat.zero_le _, rfl, Frm.refl _⟩ ?_
  rintro i wr ρ ⟨hil, hpre, hf⟩
  have hEr := hE.frm hf
  have hFr := hF.frm hf
  refine sgo ?_
  (show WC _ _ _ _ _ _ _; first | refine WC_dec rfl (fun hc => ?_) (fun hc => ?_) | refine WC_cond rfl (fun hc => ?_) (fun hc => ?_))
  · have hlt : i < ms.length := by omega
    have hSg := hEr.im.sg
    have hSh := hFr.im.sg
    have hIm := hEr.im
    have hIn := hFr.im
    have hx : ms[i]? = some ms[i] := List.getElem?_eq_getElem hlt
    have hy : ns[i]? = some ns[i] := List.getElem?_eq_getElem (by omega)
    have hseg := fm_seg EvM.len ms hx
    have hseh := fm_seg EvM.len ns hy
    have hat := hEr.each _ (List.getElem_mem hlt)
    have hau := hFr.each _ (List.getElem_mem (show i < ns.length by omega))
    have hsm := hs _ (List.getElem_mem hlt)
    have hsn := hs2 _ (List.getElem_mem (show i < ns.length by omega))
    have hps : ∃ q, p = some q := hSg.some (by have := fm_len EvM.len ms; omega)
    have hqs : ∃ a, q = some a := hSh.some (by have := fm_len EvM.len ns; omega)
    have hfl := fm_len EvM.len ms
    have hfl2 := fm_len EvM.len ns
    have htx : (evs ms).take (i + 1) = (evs ms).take i ++ [ms[i].e] := by rw [List.take_add_one, evs_at hx]; rfl
    have hty : (evs ns).take (i + 1) = (evs ns).take i ++ [ns[i].e] := by rw [List.take_add_one, evs_at hy]; rfl
    generalize ms[i] = m at *
    generalize ns[i] = n at *
    clear hc
    refine sgo ?_
    refine wcdraw ?_
    refine qgo ?_
    rw [hseg, hseh]
    refine qlcallp (fun w' hw' => evSame_ok m n hsm hsn w' (hat.frm hw') (hau.frm hw')) ?_
    refine qgo ?_
    refine QL_nil ?_
    intro wd hwd
    have hfd := hf.trans hwd
    refine sgo ?_
    (show WC _ _ _ _ _ _ _; first | refine WC_dec rfl (fun hc => ?_) (fun hc => ?_) | refine WC_cond rfl (fun hc => ?_) (fun hc => ?_))
    · have hne : evs ms ≠ evs ns := by
        intro h
        rw [h] at htx
        rw [htx] at hty
        have := List.append_cancel_left hty
        simp at this
        simp [this] at hc
      refine sgo ?_
      (first | refine fp1 (.inl rfl) rfl rfl ?_ | refine fp2 (.inl rfl) rfl rfl rfl ?_ | refine fp3 (.inl rfl) rfl rfl rfl rfl ?_ | refine fp0 (.inr rfl) rfl ?_ | refine fp0 (.inl rfl) rfl ?_ | refine fp1 (.inr rfl) rfl rfl ?_); refine ⟨?_, by (first | exact Frm.refl _ | assumption | exact Go.Sv.Sep.frm (by assumption) | (refine Frm.trans ?_ (by assumption); first | exact Frm.refl _ | assumption))⟩; (try simp only [realB, rv_true, Nat.reduceBEq, cond_true, cond_false, entG, real_lif, updGL])
      rw [decide_eq_false hne]
    · refine sgo ?_
      refine ⟨i + 1, ⟨rfl, rfl, rfl, rfl, trivial⟩, ⟨hlt, ?_, hfd⟩, (by (try dsimp only); omega)⟩
      rw [htx, hty, hpre]
      simp at hc
      rw [hc]
  · obtain rfl : i = ms.length := by omega
    refine sgo ?_
    (first | refine fp1 (.inl rfl) rfl rfl ?_ | refine fp2 (.inl rfl) rfl rfl rfl ?_ | refine fp3 (.inl rfl) rfl rfl rfl rfl ?_ | refine fp0 (.inr rfl) rfl ?_ | refine fp0 (.inl rfl) rfl ?_ | refine fp1 (.inr rfl) rfl rfl ?_); refine ⟨?_, by (first | exact Frm.refl _ | assumption | exact Go.Sv.Sep.frm (by assumption) | (refine Frm.trans ?_ (by assumption); first | exact Frm.refl _ | assumption))⟩; (try simp only [realB, rv_true, Nat.reduceBEq, cond_true, cond_false, entG, real_lif, updGL])
    rw [← evs_len ms, List.take_length, evs_len, hle, ← evs_len ns, List.take_length] at hpre
    rw [hpre, decide_eq_true rfl]








































































































end Go.Proofs.YthgbpgjpnaanlaaGreatDoor

/-
  sievelaw18: own; event: copied.
-/
set_option linter.unusedSimpArgs false
set_option linter.unusedVariables false
set_option linter.unnecessarySimpa false
namespace Go.Proofs.YthgbpgjpnaanlaaGreatDoor
open Go Go.Sv Go.RowKit

theorem evs_flat (ns : List EvM) (m : EvM) : ns.flatMap EvM.cells ++ m.cells = (ns ++ [m]).flatMap EvM.cells := by simp
theorem evs_snoc (ns : List EvM) (m : EvM) : evs (ns ++ [m]) = evs ns ++ [m.e] := by simp [evs]































































end Go.Proofs.YthgbpgjpnaanlaaGreatDoor

/-
  sievelaw18: awake, EventNames.
-/
set_option linter.unusedSimpArgs false
set_option linter.unusedVariables false
set_option linter.unnecessarySimpa false
namespace Go.Proofs.YthgbpgjpnaanlaaGreatDoor
open Go Go.Sv Go.RowKit

theorem num18_ok (k : Int) (w : World) : PureC Tryz.prog 6 #[int k] w (int k) := by
  refine enter (l := [int k]) Tryz.func6 rfl Tryz.ntmps6 (by kernel_rfl) rfl ?_
  refine sgo ?_
  (first | refine fp1 (.inl rfl) rfl rfl ?_ | refine fp2 (.inl rfl) rfl rfl rfl ?_ | refine fp3 (.inl rfl) rfl rfl rfl rfl ?_ | refine fp0 (.inr rfl) rfl ?_ | refine fp0 (.inl rfl) rfl ?_ | refine fp1 (.inr rfl) rfl rfl ?_); refine ⟨?_, by (first | exact Frm.refl _ | assumption | exact Go.Sv.Sep.frm (by assumption) | (refine Frm.trans ?_ (by assumption); first | exact Frm.refl _ | assumption))⟩; (try simp only [realB, rv_true, Nat.reduceBEq, cond_true, cond_false, entG, real_lif, updGL])
def ex1 : List EvM := [⟨⟨1, [98], [], []⟩, none, 0⟩, ⟨⟨2, [105], [], []⟩, none, 0⟩]
def ex2 : List EvM := [⟨⟨3, [98, 114], [], []⟩, none, 0⟩]
theorem ex1_lk : (lkR (evs ex1)).at_ = 1 ∧ (lkR (evs ex1)).err = 181 := by decide +kernel
theorem ex2_lk : (lkR (evs ex2)).most = 1 ∧ (lkR (evs ex2)).err = 0 := by decide +kernel
theorem exs_small : (∀ m ∈ ex1, m.e.small) ∧ ∀ m ∈ ex2, m.e.small := by
  constructor
  · intro m hm
    simp only [ex1, List.mem_cons, List.not_mem_nil, or_false] at hm
    rcases hm with rfl | rfl <;> exact ⟨by decide, by decide, by decide, by simp⟩
  · intro m hm
    simp only [ex2, List.mem_cons, List.not_mem_nil, or_false] at hm
    subst hm
    exact ⟨by decide, by decide, by decide, by simp⟩
set_option maxHeartbeats 1000000 in
theorem awake18_ok (w : World) (hA : Asc w) : PureC Tryz.prog 11 #[] w (.bool true) := by
  refine enter (l := []) Tryz.func11 rfl Tryz.ntmps11 (by kernel_rfl) rfl ?_
  have hS := Sep.start w
  refine sgo ?_
  refine wlbuild ?_
  refine wlbuild ?_
  refine wlbsr (vs := ex1.map EvM.cells) 2 (fun b w1 hb ho hf => ?_) (h1 := fun v hv => by obtain ⟨m, _, rfl⟩ := List.mem_map.1 hv; rfl)
  replace hS : Sep w w1 [pOwn b (ex1.flatMap EvM.cells)] := hS.push hf ho (by simpa [pOwn] using hb)
  refine wlpure (nested_ok ex1 (pb b) 2 (by decide) exs_small.1 w1 (hA.frm hS.frm) ⟨(hS.own 0 rfl).im (by simp), ?_⟩) fun w2 hf2 => ?_
  · intro m hm
    simp only [ex1, List.mem_cons, List.not_mem_nil, or_false] at hm
    rcases hm with rfl | rfl <;> exact Im.nil _ _ _
  replace hS := (hS.grow hf2).empty
  rw [ex1_lk.1, ex1_lk.2]
  refine sgo ?_
  refine wlbuild ?_
  refine sb1a (vs := ex2.flatMap EvM.cells) hS fun b3 w3 hS => ?_
  refine wlpure (depth_ok ex2 (pb b3) 1 (by decide) exs_small.2 w3 (hA.frm hS.frm) ⟨(hS.own 0 rfl).im (by simp), ?_⟩) fun w4 hf4 => ?_
  · intro m hm
    simp only [ex2, List.mem_cons, List.not_mem_nil, or_false] at hm
    subst hm; exact Im.nil _ _ _
  replace hS := hS.grow hf4
  rw [if_pos ex2_lk.2, ex2_lk.1]
  refine sgo ?_
  refine wlcallgp (vals := [int 181]) (fun _ => num18_ok 181 _) fun w5 hf5 => ?_
  replace hS := hS.grow hf5
  refine sgo ?_
  refine wlcallgp (vals := [int 0]) (fun _ => num18_ok 0 _) fun w6 hf6 => ?_
  replace hS := hS.grow hf6
  refine sgo ?_
  (first | refine fp1 (.inl rfl) rfl rfl ?_ | refine fp2 (.inl rfl) rfl rfl rfl ?_ | refine fp3 (.inl rfl) rfl rfl rfl rfl ?_ | refine fp0 (.inr rfl) rfl ?_ | refine fp0 (.inl rfl) rfl ?_ | refine fp1 (.inr rfl) rfl rfl ?_); refine ⟨?_, by (first | exact Frm.refl _ | assumption | exact Go.Sv.Sep.frm (by assumption) | (refine Frm.trans ?_ (by assumption); first | exact Frm.refl _ | assumption))⟩; (try simp only [realB, rv_true, Nat.reduceBEq, cond_true, cond_false, entG, real_lif, updGL])
  simp [pkb]













end Go.Proofs.YthgbpgjpnaanlaaGreatDoor

/-
  Package event: Equal, Count, Text.
-/
set_option linter.unusedSimpArgs false
set_option linter.unusedVariables false
set_option linter.unnecessarySimpa false
namespace Go.Sv
open Go Go.RowKit
section
variable {P : Program} {w : World}
variable {σ : Env} {d : Option Tmp} {ty t t' el : TypeId} {pos : String} {af : Array Edge} {g : Option (Nat × Bool)} {x y : Operand} {zv : Value} {bytes : Nat}
end
end Go.Sv
namespace Go.Proofs.YthgbpgjpnaanlaaGreatDoor
open Go Go.Sv Go.RowKit







































































































































































































end Go.Proofs.YthgbpgjpnaanlaaGreatDoor

/-
  Package event: Count, Text.
-/
set_option linter.unusedSimpArgs false
set_option linter.unusedVariables false
set_option linter.unnecessarySimpa false
namespace Go.Proofs.YthgbpgjpnaanlaaGreatDoor
open Go Go.Sv Go.RowKit

def cntR (l : List Ev) (k : Int) : Nat := l.countP fun e => decide (e.kind = k)
/-- how many of each kind -/
def cnts (l : List Ev) : List Value := [int (cntR l 0), int (cntR l 1), int (cntR l 2), int (cntR l 3)]
/-- all text in one -/
def etxt (e : Ev) : List UInt8 := if e.kind = 0 then mendR e.text else []
def textR (l : List Ev) : List UInt8 := l.flatMap etxt
end Go.Proofs.YthgbpgjpnaanlaaGreatDoor

/-
  sievelaw18: EventChecks.
-/
set_option linter.unusedSimpArgs false
set_option linter.unusedVariables false
set_option linter.unnecessarySimpa false
namespace Go.Sv
open Go Go.RowKit
section
variable {D : Type} {P : Program} {w0 w w' : World} {cs rest : List Plot} {σ : Env} {d : Option Tmp} {dd dj : Nat} {op : Op} {ty : TypeId} {pos : String} {af : Array Edge} {v : Value} {k j : Nat} {want : Bool} {ops : Array Oper} {T : Value → World → Prop} {B : Prop}
theorem y_ev (sl : List (Nat × Value)) (hs : Has σ sl) {g : Option (Nat × Bool)} (he : ev1 (updGL (lif σ) sl) op = some ⟨v, true⟩) : Y P σ ⟨d, op, ty, pos, af, g⟩ w v w := by
  have hy : Y P (real (updGL (lif σ) sl)) ⟨d, op, ty, pos, af, g⟩ w v w := ev1_ok he rfl
  rw [← frameOf sl hs] at hy
  exact hy
/-- one that only looks at what is known -/
theorem rule_e (sl : List (Nat × Value)) (hs : Has σ sl) (hT : T v w) (he : ev1 (updGL (lif σ) sl) op = some ⟨v, true⟩ := by rfl) :
    (Region.wanted (⟨d, op, ty, pos, af, none⟩ : Oper) (yl ops σ) = true ∧ comes P T ((execOp (evl σ) ⟨d, op, ty, pos, af, none⟩).run P w)) ∨ B := rule_y (y_ev sl hs he) hT
end
end Go.Sv
namespace Go.Proofs.YthgbpgjpnaanlaaGreatDoor
open Go Go.Sv Go.RowKit







structure CkD where
  q : Option Addr
  c : Nat
  ns : List EvM
def ckP (ms ns : List EvM) (p q : Option Addr) (c cc : Nat) : Plan CkD where
  val k d := match k with
    | 0 | 3 | 8 | 9 | 14 | 20 => .slice p ms.length c
    | 1 | 4 => .slice q ns.length cc
    | 2 | 5 => .bool (decide (evs ms = evs ns))
    | 10 => .slice d.q d.ns.length d.c
    | 15 | 16 => .agg ⟨cnts (evs ms)⟩
    | 21 | 22 => str (textR (evs ms))
    | _ => .bool true
  pl k d := match k with
    | 10 => [pRow 4 d.q d.ns.length d.c (d.ns.flatMap EvM.cells), pMany (d.ns.map EvM.row)]
    | _ => []
  con k := match k with
    | 10 => some 11
    | _ => none
  fact k a := match k with
    | 10 => evs (a 10).ns = evs ms
    | _ => True



















































































































































































































































































end Go.Proofs.YthgbpgjpnaanlaaGreatDoor

