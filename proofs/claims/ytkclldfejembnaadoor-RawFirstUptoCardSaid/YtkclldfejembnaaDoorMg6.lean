/-
  Our texts SvIt, SvRwK, joined.
-/
import Derived.Test.YtkclldfejembnaaDoorMg5
/-
  A loop over a text, with memory in pieces.
-/
set_option linter.unusedSimpArgs false
set_option linter.unusedVariables false
set_option linter.unnecessarySimpa false
namespace Go.Sv
open Go Go.RowKit
def pIt (r : Nat) (l : List UInt8) (i : Nat) : Plot where
  foot := [r]
  ok w := It w r l i
  view := (none, [])
  loc _ _ h hb := (hb r (by simp)).trans h
  lt _ h x hx := by rw [List.mem_singleton.1 hx]; exact h.lt
  sg _ _ := .inl rfl
section
variable {w0 w w' : World} {cs : List Plot} {r i j : Nat} {l : List UInt8}
theorem Sep.it (h : Sep w0 w cs) (k : Nat) (hi : cs[k]? = some (pIt r l i)) : It w r l i := h.at (c := pIt r l i) k hi
theorem Sep.pushIt (h : Sep w0 w cs) (hf : Frm w w') (hI : It w' r l i) (hr : w.heap.size ≤ r) : Sep w0 w' (pIt r l i :: cs) := h.push hf hI (by simpa [pIt] using hr)
theorem Sep.nextIt (h : Sep w0 w cs) (k : Nat) (hi : cs[k]? = some (pIt r l i)) (hl : Le [r] w w') (hI : It w' r l j) : Sep w0 w' (cs.set k (pIt r l j)) := h.upd k hi (lm_own hl) hI
end
end Go.Sv

/-
  The laws RawNones, RawFirst.
-/
set_option linter.unusedSimpArgs false
set_option linter.unusedVariables false
set_option linter.unnecessarySimpa false
namespace Go.Proofs.YtkclldfejembnaaDoor
open Go Go.Sv Go.RowKit

set_option maxHeartbeats 2000000 in
theorem rawNones_ok (r : Int) (w : World) (hA : Asc w) : PureC Tryd.prog 6 #[i32 r] w (.bool true) := by
  have hS := Sep.start w
  refine enter (l := [i32 r]) Tryd.func6 rfl Tryd.ntmps6 (by kernel_rfl) rfl ?_
  refine sgo ?_
  refine wlbuild ?_
  refine sbox hS fun bz w1 hS => ?_
  replace hS : Sep w w1 [pOwn bz [str [], int 0, .slice none 0 0, .slice none 0 0, .slice none 0 0, int 0, int 0, i32 0, .bool false, .bool false, .bool false]] := hS
  refine wlbsn (vs := [.pointer none, ptrAt (pb bz) 0]) 2 (fun b9 w9 hb9 o9 hf9 => ?_) (h1 := by simp [Value.cells])
  obtain ⟨L, hL, hL2⟩ : ∃ L : List Value, [Value.pointer none, ptrAt (pb bz) 0] = L ∧ L.length = 2 := ⟨_, rfl, rfl⟩
  rw [hL] at o9
  replace hS := hS.push (c := pOwn b9 L) hf9 o9 (by simpa [pOwn] using hb9)
  have hU : ∀ i, i < 2 → ∃ x, L[i]? = some x ∧ ∀ w', Sep w w' [pOwn b9 L, pOwn bz [str [], int 0, .slice none 0 0, .slice none 0 0, .slice none 0 0, int 0, int 0, i32 0, .bool false, .bool false, .bool false]] → Unm w' x := by
    subst hL
    intro i hi
    have : i = 0 ∨ i = 1 := by omega
    rcases this with rfl | rfl
    · exact ⟨_, rfl, fun _ _ => .inl rfl⟩
    · exact ⟨_, rfl, fun _ h => .inr ⟨bz, _, _, _, _, _, _, _, _, _, _, rfl, h.own 1 rfl⟩⟩
  clear hL
  refine sgo ?_
  refine wcloop (X := Nat) (fun i => [(0, i32 r), (9, .slice (pb b9) 2 2), (10, int 2), (11, int i)])
    (fun i wr => i ≤ 2 ∧ Sep w wr [pOwn b9 L, pOwn bz [str [], int 0, .slice none 0 0, .slice none 0 0, .slice none 0 0, int 0, int 0, i32 0, .bool false, .bool false, .bool false]]) (fun i => 2 - i) 0 ⟨rfl, rfl, rfl, rfl, trivial⟩ ⟨Nat.zero_le _, hS⟩ ?_
  clear hS o9
  rintro i wr ρ ⟨hil, hS⟩
  refine sgo ?_
  (show WC _ _ _ _ _ _ _; first | refine WC_dec rfl (fun hc => ?_) (fun hc => ?_) | refine WC_cond rfl (fun hc => ?_) (fun hc => ?_))
  · have hlt : i < 2 := by omega
    obtain ⟨x, hx, hu⟩ := hU i hlt
    clear hc hU
    refine sgo ?_
    refine wlpure (rawPut_unm x r _ (hu _ hS)) fun w2 hf2 => ?_
    replace hS := hS.grow hf2
    refine sgo ?_
    refine wlcallgp (vals := [int 2]) (fun _ => num10_ok _ _) (fun w3 hf3 => ?_)
    replace hS := hS.grow hf3
    refine sgo ?_
    refine wlcallgp (vals := [x]) (fun _ => rawTake_unm x _ (hu _ hS)) (fun w4 hf4 => ?_)
    replace hS := hS.grow hf4
    refine sgo ?_
    refine wlcallgp (vals := [x]) (fun _ => rawHeld_unm x _ (hu _ hS)) (fun w5 hf5 => ?_)
    replace hS := hS.grow hf5
    refine sgo ?_
    refine wlcallgp (vals := [x]) (fun _ => rawEnded_unm x _ (hu _ hS)) (fun w6 hf6 => ?_)
    replace hS := hS.grow hf6
    refine sgo ?_
    refine wlcallgp (vals := [x]) (fun _ => rawRune_unm x _ (hu _ hS)) (fun w7 hf7 => ?_)
    replace hS := hS.grow hf7
    refine sgo ?_
    refine wlcallgp (vals := [x]) (fun _ => rawEnd_unm x _ (hu _ hS)) (fun w8 hf8 => ?_)
    replace hS := hS.grow hf8
    refine sgo ?_
    refine wlcallgp (vals := [int 2]) (fun _ => num10_ok _ _) (fun w10 hf10 => ?_)
    replace hS := hS.grow hf10
    refine sgo ?_
    exact ⟨i + 1, ⟨rfl, rfl, rfl, rfl, trivial⟩, ⟨hlt, hS⟩, (by (try dsimp only); omega)⟩
  · refine sgo ?_
    refine wlpure (awake10_ok _ (hA.frm hS.frm)) fun w2 hf2 => ?_
    refine sgo ?_
    have hf := hS.frm.trans hf2
    clear hf2
    (first | refine fp1 (.inl rfl) rfl rfl ?_ | refine fp2 (.inl rfl) rfl rfl rfl ?_ | refine fp3 (.inl rfl) rfl rfl rfl rfl ?_ | refine fp0 (.inr rfl) rfl ?_ | refine fp0 (.inl rfl) rfl ?_ | refine fp1 (.inr rfl) rfl rfl ?_); refine ⟨?_, by (first | exact Frm.refl _ | assumption | exact Go.Sv.Sep.frm (by assumption) | (refine Frm.trans ?_ (by assumption); first | exact Frm.refl _ | assumption))⟩; (try simp only [realB, rv_true, Nat.reduceBEq, cond_true, cond_false, entG, real_lif, updGL])
    all_goals rfl
/-! ## RawFirst, in plain terms -/
theorem first_facts (name : List UInt8) (wh : Nat) (s : List UInt8) : (wholeR name wh s).2.1 ≤ s.length ∧ ((wholeR name wh s).2.2 = false → (wholeR name wh s).2.1 = s.length) ∧ validR (wholeR name wh s).1 = true ∧
    (scanR name wh sc0 (runesN (wholeR name wh s).1)).over = false ∧ wholeR name wh (wholeR name wh s).1 = ((wholeR name wh s).1, (wholeR name wh s).1.length, false) ∧ (wholeR name wh s).1.length ≤ 4 * s.length ∧
    ∀ k, k < (wholeR name wh s).2.1 → (wholeR name wh s).2.2 = true → (wholeR name wh (s.take k)).2.2 = false := by
  rcases whole_split name wh s with ⟨a, c, b, k1, k2, k3, k4, k5⟩ | ⟨k1, k2⟩
  · have hk := scan_keep name wh (runesN a) sc0 k3
    have hg : ∀ r ∈ (scanR name wh sc0 (runesN a)).sure, Good r := (ok_scan (runesN a) sc0 0 ok_sc0 (runesN_good a)).6.1
    have hall : (scanR name wh sc0 (runesN a)).sure ++ (scanR name wh sc0 (runesN a)).held = runesN a := hk.1
    have hthird : ∀ k, k < a.length + 1 → (wholeR name wh (s.take k)).2.2 = false := by
      intro k hkn
      rcases whole_split name wh (s.take k) with ⟨a', c', b', m1, m2, m3, m4, m5⟩ | ⟨m1, m2⟩
      · exfalso
        have hs : s = a' ++ c' :: (b' ++ s.drop k) := by
          have e := List.take_append_drop k s
          rw [m1] at e
          exact e.symm.trans (by simp)
        have hw := whole_at (b := b' ++ s.drop k) (stopN_lt m2) m3 m4
        rw [← hs, k5] at hw
        have e1 := congrArg (fun x => x.2.1) hw
        dsimp only at e1
        have := congrArg List.length m1
        simp only [List.length_take, List.length_append, List.length_cons] at this
        omega
      · rw [m2]
    rw [k5]
    dsimp only
    have hpre : (scanR name wh sc0 (scanR name wh sc0 (runesN a)).sure).over = false := by
      apply scan_pre (m := (scanR name wh sc0 (runesN a)).held)
      rw [hall]; exact k3
    have hlen : (scanR name wh sc0 (runesN a)).sure.length ≤ a.length := by
      have h1 := congrArg List.length hall
      have h2 := runesN_len a
      rw [List.length_append] at h1
      omega
    generalize (scanR name wh sc0 (runesN a)).sure = L at *
    have hrn := runesN_flat L hg
    have hsl : s.length = a.length + b.length + 1 := by rw [k1]; simp; omega
    have hfl := encR_flat L
    refine ⟨by omega, fun h => by (try cases h), valid_flat L hg, by rw [hrn]; exact hpre, ?_, by omega, fun k h1 _ => hthird k h1⟩
    rw [whole_none (by rw [hrn]; exact hpre), mend_flat hg]
  · rw [k2]
    dsimp only
    have hml := mendR_len s
    refine ⟨Nat.le_refl _, fun _ => rfl, valid_mend s, by rw [runesN_mend]; exact k1, ?_, hml, fun k _ h => by cases h⟩
    rw [whole_none (by rw [runesN_mend]; exact k1), mend_mend]

set_option maxHeartbeats 4000000 in
theorem rawFirst_ok (name s : List UInt8) (k : Int) (hk1 : IntKind.min .i64 ≤ k) (hk2 : k ≤ IntKind.max .i64) (hb : name.length + s.length ≤ 1048576) (w : World) (hA₀ : Asc w) : PureC Tryd.prog 5 #[str name, str s, int k] w (.bool true) := by
  have hA := hA₀
  have hnm : name.length ≤ 1073741824 := by omega
  have hW := fun l (hl : l.length ≤ 1000000000) w hA => whole_ok name l hnm hl w hA
  have hnew := fun w1 cs (hS : Sep w w1 cs) hA => new_ok name w w1 cs hS hA
  obtain ⟨f1, f2, f3, f4, f5, f6, f7⟩ := first_facts name (whereR name) s
  have h2 := fun w (hA : Asc w) => inK_ok 2 (by decide) name w hA
  have h3 := fun w (hA : Asc w) => inK_ok 3 (by decide) name w hA
  unfold rawWholeV at hW
  refine enter (l := [str name, str s, int k]) Tryd.func5 rfl Tryd.ntmps5 (by kernel_rfl) rfl ?_
  generalize whereR name = wh at *
  generalize inSet 2 name = g2 at *
  generalize inSet 3 name = g3 at *
  have hW1 := hW s (by omega)
  have hWt := hW (wholeR name wh s).1 (by omega)
  rw [f5] at hWt
  have hWk := fun k (h : k ≤ s.length) => hW (s.take k) (by simp; omega)
  clear hW
  generalize wholeR name wh s = R at *
  obtain ⟨t, n, ok⟩ := R
  dsimp only at f1 f2 f3 f4 f5 f6 f7 hW1 hWt hWk
  by_cases h0 : wh = 0
  · simp only [if_pos h0] at hW1
    refine sgo ?_
    refine wlpure (hW1 _ hA) fun w1 hf1 => ?_
    refine sgo ?_
    refine wlpure (num10_ok _ _) fun w2 hf2 => ?_
    refine sgo ?_
    refine wlcallgp (vals := []) (fun _ => awake10_ok _ ((hA.frm hf1).frm hf2)) (fun w3 hf3 => ?_) (ha := fun _ => rfl)
    refine sgo ?_
    have hf := (hf1.trans hf2).trans hf3
    clear hf1 hf2 hf3
    (first | refine fp1 (.inl rfl) rfl rfl ?_ | refine fp2 (.inl rfl) rfl rfl rfl ?_ | refine fp3 (.inl rfl) rfl rfl rfl rfl ?_ | refine fp0 (.inr rfl) rfl ?_ | refine fp0 (.inl rfl) rfl ?_ | refine fp1 (.inr rfl) rfl rfl ?_); refine ⟨?_, by (first | exact Frm.refl _ | assumption | exact Go.Sv.Sep.frm (by assumption) | (refine Frm.trans ?_ (by assumption); first | exact Frm.refl _ | assumption))⟩; (try simp only [realB, rv_true, Nat.reduceBEq, cond_true, cond_false, entG, real_lif, updGL])
    all_goals rfl
  simp only [if_neg h0] at hW1 hWt hWk
  refine sgo ?_
  refine wlpure (hW1 _ hA) fun w1 hf1 => ?_
  replace hA := hA.frm hf1
  refine sgo ?_
  refine wlpure (num10_ok _ _) fun w2 hf2 => ?_
  replace hA := hA.frm hf2
  replace hf1 := hf1.trans hf2
  clear hf2
  refine sgo ?_
  have hno : pkb (pkb (decide ((n : Int) < 0)) true (decide ((s.length : Int) < n))) true (pkb (!ok) (decide ((n : Int) ≠ s.length)) false) = false := by
    have e1 : decide ((n : Int) < 0) = false := decide_eq_false (by omega)
    have e2 : decide ((s.length : Int) < n) = false := decide_eq_false (by omega)
    rw [e1, e2]
    cases ok with
    | true => rfl
    | false => rw [f2 rfl]; simp [pkb]
  refine wcno ?_ (ht := hno)
  clear hno
  refine sgo ?_
  refine wlpure (h2 _ hA) fun w3 hf3 => ?_
  replace hA := hA.frm hf3
  replace hf1 := hf1.trans hf3
  clear hf3
  refine sgo ?_
  refine wlcallgp (vals := [str name, int (3 : Nat)]) (fun _ => h3 _ hA) (fun w3 hf3 => ?_)
  replace hA := hA.frm hf3
  replace hf1 := hf1.trans hf3
  clear hf3 h2 h3
  refine sgo ?_
  refine WC_cond rfl (fun hc => ?_) (fun hc => ?_)
  · refine sgo ?_
    refine wlpure (awake10_ok _ hA) fun w4 hf4 => ?_
    refine sgo ?_
    have hf := hf1.trans hf4
    clear hf1 hf4
    (first | refine fp1 (.inl rfl) rfl rfl ?_ | refine fp2 (.inl rfl) rfl rfl rfl ?_ | refine fp3 (.inl rfl) rfl rfl rfl rfl ?_ | refine fp0 (.inr rfl) rfl ?_ | refine fp0 (.inl rfl) rfl ?_ | refine fp1 (.inr rfl) rfl rfl ?_); refine ⟨?_, by (first | exact Frm.refl _ | assumption | exact Go.Sv.Sep.frm (by assumption) | (refine Frm.trans ?_ (by assumption); first | exact Frm.refl _ | assumption))⟩; (try simp only [realB, rv_true, Nat.reduceBEq, cond_true, cond_false, entG, real_lif, updGL])
    all_goals rfl
  clear hc
  refine sgo ?_
  refine wlpure (hWt _ hA) fun w3 hf3 => ?_
  replace hA := hA.frm hf3
  replace hf1 := hf1.trans hf3
  clear hf3 hWt
  refine sgo ?_
  refine wlpure (num10_ok _ _) fun w3 hf3 => ?_
  replace hA := hA.frm hf3
  replace hf1 := hf1.trans hf3
  clear hf3
  refine sgo ?_
  refine wcno ?_ (ht := by simp [pkb])
  refine sgo ?_
  refine wlcall (hnew _ [] ((Sep.start w).grow hf1) hA) ?_
  rintro _ w4 (⟨hz, _⟩ | ⟨-, b, rfl, hS⟩)
  · exact absurd hz h0
  clear hf1 hA hnew
  have hA0 : ∀ w' cs, Sep w w' cs → Asc w' := fun w' cs h => hA₀.frm h.frm
  refine sgo ?_
  refine wlpure (num10_ok _ _) fun w5 hf5 => ?_
  replace hS := hS.grow hf5
  clear hf5
  refine sgo ?_
  refine wlrange fun r w6 hr6 hI6 hf6 => ?_
  replace hS := hS.pushIt hf6 hI6 hr6
  replace hS := (((hS.front 4 rfl).front 4 rfl).front 4 rfl).front 4 rfl
  replace hS : Sep w w6 (scPlots b name wh sc0 scP0 [pIt r t 0]) := hS
  clear hI6 hf6 hr6
  refine sgo ?_
  refine wcutj (X := Unit) (fun _ => [(0, str name), (1, str s), (2, int k), (8, int n), (9, .bool ok)]) (fun _ w' => Frm w w') ?_ ?_
  · refine wcloop (X := Nat) (fun i => [(0, str name), (1, str s), (2, int k), (8, int n), (9, .bool ok), (15, ptrAt (pb b) 0), (106, .pointer (pb r))])
      (fun i w' => i ≤ t.length ∧ validR (t.drop i) = true ∧ ∃ rs q, runesN t = rs ++ runesN (t.drop i) ∧ Sep w w' (scPlots b name wh (scanR name wh sc0 rs) q [pIt r t i])) (fun i => t.length - i) 0 ⟨rfl, rfl, rfl, rfl, rfl, rfl, rfl, trivial⟩ ⟨Nat.zero_le _, f3, [], scP0, rfl, hS⟩ ?_
    clear hS
    rintro i wr ρ ⟨hil, hv, rs, q, hrs, hS⟩
    have hgood := runesN_good t
    have htl := runesN_len t
    rw [hrs] at f4 hgood htl
    rw [List.length_append] at htl
    have hIt := hS.it 4 rfl
    iterate 2 (first | (show WL _ _ _ _ _ _ _ _; (first | refine wlp ?_ | refine WL_nil ?_ | (show WL _ _ _ _ _ (Go.Oper.mk _ _ _ _ _ none :: _) _ _; first | refine wlpk ?_ | refine wl_load ?_ | refine wl_idxa ?_ | refine wl_fld ?_ | refine wl_idx ?_ | refine wl_len ?_ | refine wl_bin ?_ | refine wl_cnv ?_ | refine wl_slc ?_ | refine wl_una ?_ | refine wl_nilc ?_ | refine wl_mkf ?_) | refine wlpg ?_ | refine wlg_load ?_ | refine wlg_idxa ?_ | refine wlg_fld ?_ | refine wlg_idx ?_ | refine wlg_len ?_ | refine wlg_bin ?_ | refine wlg_cnv ?_ | refine wlg_slc ?_ | refine wlg_una ?_ | refine wlg_nilc ?_ | refine wlg_mkf ?_)) | (show thn _ _ _ _ _ _; (first | refine thn_normal ?_ | refine thn_ret ?_ | refine thn_exit ?_)) | (show thl _ _ _ _ _ _ _; (first | refine thl_normal ?_ | refine thl_ret ?_ | refine thl_exit ?_)) | (show WC _ _ _ _ _ _ _; (first | refine WC_seq ?_ | refine WC_region ?_ | refine WC_ret ?_ | refine WC_skip ?_ | refine WC_block ?_ | refine WC_exit ?_ | refine WC_label ?_ | refine WC_scope rfl ?_ | refine wcyes ?_ | refine wcno ?_)) | (show blk _ _ _ _ _ _; (first | refine blk_ret ?_ | refine blk_here ?_ | refine blk_on rfl ?_ | refine blk_normal ?_)) | (show ngt _ _ _ _ _; (first | refine ngt_normal ?_ | refine ngt_ret ?_ | refine ngt_exit ?_)))
    by_cases hi : i < t.length
    · have hpos : 0 < (t.drop i).length := by simp; omega
      obtain ⟨hr, hv2⟩ := valid_step (t.drop i) hpos hv
      have hpr := pieceR_rng (t.drop i) hpos
      have hdl : (t.drop i).length = t.length - i := by simp
      have hcons := runesN_cons (t.drop i) hpos
      rw [List.drop_drop] at hv2 hcons
      rw [hcons] at hrs f4 hgood htl
      refine wlnext_yes hIt hi fun w7 hI7 hl7 => ?_
      rw [decode_right t i hr] at hI7 ⊢
      dsimp only at hI7 ⊢
      generalize (pieceR (t.drop i)).2.1 = m at *
      generalize (pieceR (t.drop i)).1.toNat = c at *
      replace hS := hS.nextIt 4 rfl hl7 hI7
      replace hS : Sep w w7 (scPlots b name wh (scanR name wh sc0 rs) q [pIt r t (i + m)]) := hS
      clear hIt hI7 hl7
      have f4a := scan_pre f4
      have f4b : (scanR name wh sc0 (rs ++ [c])).over = false := by
        rw [show rs ++ c :: runesN (t.drop (i + m)) = (rs ++ [c]) ++ runesN (t.drop (i + m)) by simp] at f4
        exact scan_pre f4
      have hok := ok_scan (name := name) (wh := wh) rs sc0 0 ok_sc0 (fun x hx => hgood x (List.mem_append_left _ hx))
      have hheld := (scan_keep name wh (rs ++ [c]) sc0 f4b).2 (Nat.zero_le _)
      rw [scan_snoc f4a] at f4b hheld
      have hput := rawPut_ok b name wh (scanR name wh sc0 rs) q c (0 + rs.length) (hgood c (by simp)) hok (by simp only [List.length_cons] at htl; omega) hnm f4a w _ _ hS
      rw [f4b] at hput
      have hrs2 : runesN t = (rs ++ [c]) ++ runesN (t.drop (i + m)) := by rw [hrs]; simp
      have hsn := scan_snoc f4a c
      refine sgo ?_
      refine wlcall hput ?_
      rintro _ w8 ⟨q2, rfl, hS⟩
      rw [← hsn] at hS hheld
      refine sgo ?_
      refine wlpure (num10_ok _ _) fun w9 hf9 => ?_
      replace hS := hS.grow hf9
      refine sgo ?_
      refine wlcallgp (vals := [ptrAt (pb b) 0]) (fun _ => rawHeld_ok b name wh _ q2 w _ _ hS) (fun w10 hf10 => ?_)
      replace hS := hS.grow hf10
      refine sgo ?_
      refine wcno ?_ (ht := ?_)
      · refine sgo ?_
        exact ⟨i + m, ⟨rfl, rfl, rfl, rfl, rfl, rfl, rfl, trivial⟩, ⟨by omega, hv2, rs ++ [c], q2, hrs2, hS⟩, by omega⟩
      · simp [pkb]; omega
    · refine wlnext_no hIt (by omega) ?_
      refine sgo ?_
      exact ⟨(), ⟨rfl, rfl, rfl, rfl, rfl, trivial⟩, hS.frm⟩
  · clear hS
    rintro _ w7 ρ hf7
    have hA7 := hA₀.frm hf7
    clear hA0
    have hk0 : ((s.length : Int) + 1) ≠ 0 := by omega
    have hr1 := Int.tmod_lt_of_pos k (show (0 : Int) < (s.length : Int) + 1 by omega)
    have hr2 : -((s.length : Int) + 1) < k.tmod ((s.length : Int) + 1) := Int.lt_tmod_of_pos k (by omega)
    refine sgo ?_
    refine wl ?_ (y_remt rfl rfl hk0)
    generalize k.tmod ((s.length : Int) + 1) = m at *
    refine sgo ?_
    have hM1 := Int.emod_nonneg (m + s.length + 1) hk0
    have hM2 := Int.emod_lt_of_pos (m + s.length + 1) (show (0 : Int) < (s.length : Int) + 1 by omega)
    generalize (m + s.length + 1) % ((s.length : Int) + 1) = M at *
    obtain ⟨kk, rfl⟩ := Int.eq_ofNat_of_zero_le hM1
    refine WC_cond rfl (fun hc => ?_) (fun hc => ?_)
    · simp only [pkb_and, Bool.and_eq_true, decide_eq_true_eq] at hc
      have hk := f7 kk (by omega) hc.2
      have hwk := hWk kk (by omega)
      rw [hk] at hwk
      generalize hst : s.take kk = sk at *
      refine sgo ?_
      rw [hst]
      refine wlpure (hwk _ hA7) fun w8 hf8 => ?_
      refine sgo ?_
      refine wlpure (awake10_ok _ (hA7.frm hf8)) fun w9 hf9 => ?_
      refine sgo ?_
      have hf := (hf7.trans hf8).trans hf9
      clear hf7 hf8 hf9
      (first | refine fp1 (.inl rfl) rfl rfl ?_ | refine fp2 (.inl rfl) rfl rfl rfl ?_ | refine fp3 (.inl rfl) rfl rfl rfl rfl ?_ | refine fp0 (.inr rfl) rfl ?_ | refine fp0 (.inl rfl) rfl ?_ | refine fp1 (.inr rfl) rfl rfl ?_); refine ⟨?_, by (first | exact Frm.refl _ | assumption | exact Go.Sv.Sep.frm (by assumption) | (refine Frm.trans ?_ (by assumption); first | exact Frm.refl _ | assumption))⟩; (try simp only [realB, rv_true, Nat.reduceBEq, cond_true, cond_false, entG, real_lif, updGL])
      all_goals rfl
    · refine sgo ?_
      refine wlpure (awake10_ok _ hA7) fun w8 hf8 => ?_
      refine sgo ?_
      have hf := hf7.trans hf8
      clear hf7 hf8
      (first | refine fp1 (.inl rfl) rfl rfl ?_ | refine fp2 (.inl rfl) rfl rfl rfl ?_ | refine fp3 (.inl rfl) rfl rfl rfl rfl ?_ | refine fp0 (.inr rfl) rfl ?_ | refine fp0 (.inl rfl) rfl ?_ | refine fp1 (.inr rfl) rfl rfl ?_); refine ⟨?_, by (first | exact Frm.refl _ | assumption | exact Go.Sv.Sep.frm (by assumption) | (refine Frm.trans ?_ (by assumption); first | exact Frm.refl _ | assumption))⟩; (try simp only [realB, rv_true, Nat.reduceBEq, cond_true, cond_false, entG, real_lif, updGL])
      all_goals rfl
end Go.Proofs.YtkclldfejembnaaDoor

