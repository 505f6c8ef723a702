/-
  Package link: without percent escapes.
-/
import Derived.Test.YtffaoehhhdcjjaaSvLkB
set_option linter.unusedSimpArgs false
set_option linter.unusedVariables false
set_option linter.unnecessarySimpa false
namespace Go.Sv
open Go Go.RowKit
section
variable {P : Program} {σ : GE} {w0 : World} {d : Nat} {ty t e : TypeId} {pos : String} {af : Array Edge} {x : Operand} {zv v : Value} {bytes : Nat} {kk : IntKind} {a : Int} {K : Env → World → Prop}
theorem qxb1v [hu : Und P t (.slice e)] [hi : Inf P e zv 1 bytes] (hx : evl (real σ) x = v) (hv : v.cells = #[v]) (h : ∀ b w', Frm w0 w' → w0.heap.size ≤ b → Own w' b [v] → K (real (updG σ d ⟨.slice (pb b) 1 1, true⟩)) w') (hz : zv.cells.size = 1) :
    QX P w0 ⟨some d, .buildSlice t 1 #[(0, x)], ty, pos, af, none⟩ (real σ) K := by
  refine ⟨fun u w => ∃ b, u = .slice (pb b) 1 1 ∧ w0.heap.size ≤ b ∧ Own w b [v], ?_, ?_, ?_⟩
  · rintro u w w' ⟨b, rfl, h1, h2⟩ hf
    exact ⟨b, rfl, h1, h2.frm hf⟩
  · intro w hw
    refine ⟨_, w.alloc (.cells v.cells e), ?_, frm_alloc _ _, w.heap.size, rfl, hw.size, ?_⟩
    · simp only [execOp, List.map_toArray, List.map_cons, List.map_nil, hx, Sem.run_bind]
      rw [run_buildSlice1 (P := P) (t := t) (e := e) hz (by simp [hv]) (by decide) (by decide)]
      rfl
    · have := own_alloc w v.cells e
      simpa [hv] using this
  · rintro u w hw ⟨b, rfl, h1, h2⟩
    have := h b w hw h1 h2
    rw [← real_upd] at this
    exact this
theorem qxb1_int [hu : Und P t (.slice e)] [hi : Inf P e zv 1 bytes] (h : ∀ b w', Frm w0 w' → w0.heap.size ≤ b → Own w' b [.int kk a] → K (real (updG σ d ⟨.slice (pb b) 1 1, true⟩)) w')
    (hx : evl (real σ) x = .int kk a := by rfl) (hz : zv.cells.size = 1 := by rfl) :
    QX P w0 ⟨some d, .buildSlice t 1 #[(0, x)], ty, pos, af, none⟩ (real σ) K := qxb1v hx rfl h hz
theorem qxb1_str [hu : Und P t (.slice e)] [hi : Inf P e zv 1 bytes] {s : List UInt8} (h : ∀ b w', Frm w0 w' → w0.heap.size ≤ b → Own w' b [str s] → K (real (updG σ d ⟨.slice (pb b) 1 1, true⟩)) w')
    (hx : evl (real σ) x = str s := by rfl) (hz : zv.cells.size = 1 := by rfl) :
    QX P w0 ⟨some d, .buildSlice t 1 #[(0, x)], ty, pos, af, none⟩ (real σ) K := qxb1v hx rfl h hz
end
end Go.Sv
namespace Go.Proofs.Ytffaoehhhdcjjaa
open Go Go.Sv Go.RowKit

def valN (c : Nat) : Nat := (valueR c).toNat
theorem valN_of {c : Nat} (h : hexR c = true) : valueR c = (valN c : Int) ∧ valN c < 16 := by
  have h0 : 0 ≤ valueR c := by simpa [hexR] using h
  refine ⟨by unfold valN; omega, ?_⟩
  unfold valN valueR digitR
  simp only [Bool.and_eq_true, decide_eq_true_eq]
  repeat' split
  all_goals omega
theorem hexv_ok (c : Nat) (hn : c < 256) (h : hexR c = true) (w : World) : PureC Try.prog 30 #[i32 c] w (int (valN c)) := by
  have := value_ok c hn w
  rwa [(valN_of h).1] at this
theorem hexv4_ok (c : Nat) (hn : c < 256) (h : hexR c = true) (w : World) : PureC Try.prog 31 #[i32 c] w (int (valN c)) := by
  have := value4_ok c hn w
  rwa [(valN_of h).1] at this
def decL : List UInt8 → List UInt8
  | [] => []
  | c :: t => if c = 37 ∧ codedS t = true then UInt8.ofNat (16 * valN (at0 t 0) + valN (at0 t 1)) :: decL (t.drop 2) else c :: decL t
termination_by l => l.length
decreasing_by
  · simp; omega
  · simp
theorem decL_nil : decL [] = [] := by rw [decL]
def decodeR (s : List UInt8) : List UInt8 := mendR (decL (mendR s))
theorem u8_eq {c : UInt8} {n : Nat} (hn : n < 256) : c = UInt8.ofNat n ↔ c.toNat = n := by
  constructor
  · rintro rfl; rw [UInt8.toNat_ofNat_of_lt' (by simpa using hn)]
  · intro h; rw [← h]; simp
theorem decL_yes (l : List UInt8) (i : Nat) (h : i < l.length) (h1 : at0 l i = 37) (h2 : codedR l i = true) : decL (l.drop i) = UInt8.ofNat (16 * valN (at0 l (i + 1)) + valN (at0 l (i + 2))) :: decL (l.drop (i + 3)) := by
  rw [List.drop_eq_getElem_cons h, decL, ← codedR_drop, if_pos ⟨by
    have : l[i].toNat = 37 := by simpa [at0, h] using h1
    exact (u8_eq (by decide)).2 this, h2⟩, at_drop, at_drop, List.drop_drop]
theorem decL_no (l : List UInt8) (i : Nat) (h : i < l.length) (hn : ¬ (at0 l i = 37 ∧ codedR l i = true)) : decL (l.drop i) = UInt8.ofNat (at0 l i) :: decL (l.drop (i + 1)) := by
  rw [List.drop_eq_getElem_cons h, decL, ← codedR_drop, if_neg]
  · simp [at0, h]
  · rintro ⟨h1, h2⟩
    refine hn ⟨?_, h2⟩
    simp only [at0, List.getElem?_eq_getElem h, Option.getD_some, h1]
    rfl
theorem decL_len : ∀ (n : Nat) (l : List UInt8), l.length ≤ n → (decL l).length ≤ l.length
  | _, [], _ => by rw [decL]; simp
  | 0, c :: t, h => by simp at h
  | n + 1, c :: t, h => by
    simp only [List.length_cons] at h
    rw [decL]
    split
    · have := decL_len n (t.drop 2) (by simp; omega)
      simp only [List.length_cons, List.length_drop] at this ⊢; omega
    · have := decL_len n t (by omega)
      simp only [List.length_cons]; omega
theorem or_hex : ∀ u : Nat, u < 16 → ∀ v : Nat, v < 16 → IntKind.u8.wrap (bitop .or .i64 (IntKind.i64.wrap ((u : Int) * 2 ^ (min (4 : Int).toNat IntKind.i64.bits))) (v : Int)) = ((16 * u + v : Nat) : Int) := by decide +kernel
theorem coded_hex {l : List UInt8} {i : Nat} (h : codedR l i = true) : i + 2 < l.length ∧ hexR (at0 l (i + 1)) = true ∧ hexR (at0 l (i + 2)) = true := by
  simp only [codedR, Bool.and_eq_true, decide_eq_true_eq] at h
  exact ⟨h.1.1, h.1.2, h.2⟩
set_option maxHeartbeats 2000000 in
theorem decode_ok (l : List UInt8) (hb : l.length ≤ 268435456) (w : World) : PureC Try.prog 12 #[str l] w (str (decodeR l)) := by
  refine enter (l := [str l]) Try.func12 rfl Try.ntmps12 (by kernel_rfl) rfl ?_
  refine sgo ?_
  refine wlpure (mend_ok l (by omega) _) fun w1 hf1 => ?_
  have hml := mendR_len l
  unfold decodeR
  generalize mendR l = t at *
  refine sgo ?_
  refine wcloop (X := Nat × Option Addr × List UInt8 × Nat) (fun x => [(0, str t), (3, .slice x.2.1 x.2.2.1.length x.2.2.2), (4, int x.1)])
    (fun x wr => x.1 ≤ t.length ∧ x.2.2.1 ++ decL (t.drop x.1) = decL t ∧ x.2.2.1.length ≤ x.1 ∧ Row wr 1 x.2.1 x.2.2.1.length x.2.2.2 (bs x.2.2.1) ∧ (∀ k ∈ rb x.2.1, w.heap.size ≤ k) ∧ Frm w wr)
    (fun x => t.length - x.1) (0, none, [], 0) ⟨rfl, rfl, rfl, trivial⟩ ⟨by omega, by simp, by simp, Row.nil _ _, rb_nil _, hf1⟩ ?_
  rintro ⟨i, q, s, c⟩ wr ρ ⟨hi, he, hsl, hR, hq, hfr⟩
  dsimp only at hi he hsl hR hq ⊢
  refine sgo ?_
  (show WC _ _ _ _ _ _ _; first | refine WC_dec rfl (fun hc => ?_) (fun hc => ?_) | refine WC_cond rfl (fun hc => ?_) (fun hc => ?_))
  · have hil : i < t.length := by omega
    have h0 := at_lt t i
    refine sgo ?_
    refine wlcallgp (vals := [str t, int i]) (fun _ => coded_ok t i hi (by omega) _) fun w2 hf2 => ?_
    replace hR := hR.frm hf2
    replace hfr := hfr.trans hf2
    refine sgo ?_
    (show WC _ _ _ _ _ _ _; first | refine WC_dec rfl (fun hc => ?_) (fun hc => ?_) | refine WC_cond rfl (fun hc => ?_) (fun hc => ?_))
    · simp only [pkb_and, Bool.and_eq_true, decide_eq_true_eq] at hc
      have hy := decL_yes t i hil (by simp only [at0]; omega) hc.2
      obtain ⟨g1, g2, g3⟩ := coded_hex hc.2
      have h1 := at_lt t (i + 1)
      have h2 := at_lt t (i + 2)
      have v1 := (valN_of g2).2
      have v2 := (valN_of g3).2
      have hor := or_hex _ v1 _ v2
      refine WC_seq ?_
      refine wcdrawx 16 ?_
      refine qgo ?_
      refine qlcallp (fun w _ => hexv_ok (at0 t (i + 1)) h1 g2 w) ?_
      refine qgo ?_
      refine qlcallp (fun w _ => hexv_ok (at0 t (i + 2)) h2 g3 w) ?_
      refine qgo ?_
      refine QL_nil ?_
      refine qxb1_int fun b w3 hf3 hb3 ho3 => ?_
      rw [hor] at ho3
      have hbyt : 16 * valN (at0 t (i + 1)) + valN (at0 t (i + 2)) < 256 := by omega
      generalize 16 * valN (at0 t (i + 1)) + valN (at0 t (i + 2)) = x at *
      clear hor
      refine wlapp (news := bs [UInt8.ofNat x]) (hR.frm hf3) (by
        have e : bs [UInt8.ofNat x] = [byt x] := by simp [bs, Nat.mod_eq_of_lt hbyt]
        rw [e]; exact ho3.sg) (fun q' c' w4 hR4 hl4 => ?_) (hl := by simp [bs]) (h1 := by simp [bs, Value.oneCell'])
      have hfr4 := (hfr.trans hf3).step hl4.1 hq
      have hq4 := hl4.fresh (hfr.trans hf3) hq
      refine sgo ?_
      refine ⟨(i + 3, q', s ++ [UInt8.ofNat x], c'), ⟨rfl, ?_, ?_, trivial⟩, ⟨by dsimp only; omega, ?_, by simp; omega, ?_, hq4, hfr4⟩, by dsimp only; omega⟩
      · dsimp only; rw [List.length_append]; rfl
      · dsimp only; refine congrArg int ?_; omega
      · dsimp only; rw [← he, hy]; simp
      · dsimp only; rw [List.length_append, bs, List.map_append]; exact hR4
    · have hn : ¬ (at0 t i = 37 ∧ codedR t i = true) := by
        rintro ⟨g1, g2⟩
        rw [g2, pkb_and, Bool.and_true] at hc
        simp only [at0] at g1
        simp only [decide_eq_false_iff_not] at hc
        omega
      have hy := decL_no t i hil hn
      refine sgo ?_
      refine wlb1_int fun b w3 hb3 ho3 hf3 => ?_
      refine wlapp (news := bs [UInt8.ofNat (at0 t i)]) (hR.frm hf3) (by
        have e : bs [UInt8.ofNat (at0 t i)] = [byt (at0 t i)] := by simp [bs]
        rw [e]; exact ho3.sg) (fun q' c' w4 hR4 hl4 => ?_) (hl := by simp [bs]) (h1 := by simp [bs, Value.oneCell'])
      have hfr4 := (hfr.trans hf3).step hl4.1 hq
      have hq4 := hl4.fresh (hfr.trans hf3) hq
      refine sgo ?_
      refine ⟨(i + 1, q', s ++ [UInt8.ofNat (at0 t i)], c'), ⟨rfl, ?_, rfl, trivial⟩, ⟨by dsimp only; omega, ?_, by simp; omega, ?_, hq4, hfr4⟩, by dsimp only; omega⟩
      · dsimp only; rw [List.length_append]; rfl
      · dsimp only; rw [← he, hy]; simp
      · dsimp only; rw [List.length_append, bs, List.map_append]; exact hR4
  · obtain rfl : i = t.length := by omega
    have he' : s = decL t := by simpa [decL_nil] using he
    subst he'
    have hdl := decL_len _ t (Nat.le_refl _)
    refine sgo ?_
    refine wl ?_ (y_b2s rfl hR.sg)
    refine sgo ?_
    refine wlpure (mend_ok (decL t) (by omega) _) fun w3 hf3 => ?_
    have hf' := hfr.trans hf3
    refine sgo ?_
    (first | refine fp1 (.inl rfl) rfl rfl ?_ | refine fp2 (.inl rfl) rfl rfl rfl ?_ | refine fp3 (.inl rfl) rfl rfl rfl rfl ?_ | refine fp0 (.inr rfl) rfl ?_ | refine fp0 (.inl rfl) rfl ?_ | refine fp1 (.inr rfl) rfl rfl ?_); refine ⟨?_, by (first | exact Frm.refl _ | assumption | (refine Frm.trans ?_ (by assumption); first | exact Frm.refl _ | assumption))⟩; (try simp only [realB, rv_true, Nat.reduceBEq, cond_true, cond_false, entG, real_lif, updGL])
end Go.Proofs.Ytffaoehhhdcjjaa
