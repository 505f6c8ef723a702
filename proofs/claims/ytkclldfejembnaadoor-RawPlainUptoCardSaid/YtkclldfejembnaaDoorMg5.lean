/-
  Our texts SvRwI, SvRwJ, SvPost, SvOpen, SvOpn, SvAsc, SvOpnB, joined.
-/
import Derived.Test.YtkclldfejembnaaDoorMg4
import Derived.ChangeSame
import Derived.Test.YtkclldfejembnaaDoorRows
import Derived.WalkKit
import Derived.ProofKit
import Derived.OpenShut
import Derived.JoinedCond
import Derived.Deep.Slices
import Derived.WideKeyArgs
import Derived.Lib.LaidTab
import Derived.Deep.DeepHandedRow
import Derived.Deep.DeepWitnessRowRef
/-
  Package raw: Whole.
-/
set_option linter.unusedSimpArgs false
set_option linter.unusedVariables false
set_option linter.unnecessarySimpa false
namespace Go.Proofs.YtkclldfejembnaaDoor
open Go Go.Sv Go.RowKit

/-- what Whole answers -/
def rawWholeV (name s : List UInt8) : Value := if whereR name = 0 then .tuple #[str [], int (0 : Nat), .bool false, int 100] else .tuple #[str (wholeR name (whereR name) s).1, int (wholeR name (whereR name) s).2.1, .bool (wholeR name (whereR name) s).2.2, int 0]
def clLoop (lr D : Nat) (r : Loop) (bA : Nat) (q : Option Addr) (c : Nat) (l : List UInt8) (cs : List Plot) : List Plot := pLoop lr r :: pDef D :: pOwn bA [.slice q l.length c] :: pRow 1 q l.length c (bs l) :: cs
set_option maxHeartbeats 4000000 in
theorem whole_ok (name s : List UInt8) (hnm : name.length ≤ 1073741824) (hb : s.length ≤ 1000000000) (w : World) (hA : Asc w) : PureC Tryd.prog 10 #[str name, str s] w (rawWholeV name s) := by
  have hS := Sep.start w
  refine enter (l := [str name, str s]) Tryd.func10 rfl Tryd.ntmps10 (by kernel_rfl) rfl ?_
  refine sgo ?_
  refine salloc hS fun b4 w1 hS => ?_
  refine sgo ?_
  refine salloc hS fun b5 w2 hS => ?_
  refine sgo ?_
  refine salloc hS fun b6 w3 hS => ?_
  refine sgo ?_
  refine salloc hS fun b7 w4 hS => ?_
  replace hS : Sep w w4 [pOwn b7 [int 0], pOwn b6 [.bool false], pOwn b5 [int 0], pOwn b4 [str []]] := hS
  refine sgo ?_
  refine wlcall (new_ok name w w4 _ hS (hA.frm hS.frm)) ?_
  unfold rawWholeV
  generalize hwh : whereR name = wh
  rintro _ w5 (⟨h0, rfl, hS⟩ | ⟨h0, b, rfl, hS⟩)
  · refine sgo ?_
    refine salloc hS fun b8 w6 hS => ?_
    refine sgo ?_
    refine sst_ptr hS 0 fun w7 hS => ?_
    refine sgo ?_
    refine sst_str hS 4 fun w7 hS => ?_
    refine sgo ?_
    refine sst_int hS 3 fun w7 hS => ?_
    refine sgo ?_
    refine sst_bool hS 2 fun w7 hS => ?_
    refine sgo ?_
    refine sst_int hS 1 fun w7 hS => ?_
    refine sgo ?_
    replace hS : Sep w w7 [pOwn b8 [.pointer none], pOwn b7 [int 100], pOwn b6 [.bool false], pOwn b5 [int 0], pOwn b4 [str []]] := hS
    refine fpc4 (.inl rfl) rfl rfl ⟨rfl, rfl, rfl, rfl⟩ ⟨hS.own 4 rfl, hS.own 3 rfl, hS.own 2 rfl, hS.own 1 rfl⟩ ⟨?_, hS.frm⟩
    rw [if_pos h0]
    rfl
  · rw [if_neg h0]
    refine sgo ?_
    refine salloc hS fun b8 w6 hS => ?_
    refine sgo ?_
    refine sst_ptr hS 0 fun w7 hS => ?_
    replace hS : Sep w w7 (pOwn b8 [ptrAt (pb b) 0] :: scPlots b name wh sc0 scP0 [pOwn b7 [int 0], pOwn b6 [.bool false], pOwn b5 [int 0], pOwn b4 [str []]]) := hS
    refine sgo ?_
    refine wls2b rfl (by omega) fun bB cB w8 hb8 hc1 hc2 hI hf8 => ?_
    replace hS := hS.grow hf8
    refine wlcall (allS_ok s _ _ _ rfl (by omega) w w8 _ hS hI) ?_
    rintro _ w9 ⟨bA, q, c, rfl, hc, hS⟩
    clear hI hf8
    refine sgo ?_
    refine wcrangef (cap := [ptrAt (pb bA) 0]) rfl rfl ?_
    intro fn lr D w10 hD hlr hne hf10 hL hN
    obtain ⟨rc, hrc, hL⟩ := loop_fam hL
    replace hS := hS.loop hf10 hL hN hlr hD hne
    replace hS := ((((hS.front 4 rfl).front 8 rfl).front 8 rfl).front 8 rfl).front 8 rfl
    clear hL hN hf10
    refine CallsR.mono (all1_ok lr bA s q c hc (by omega)
      (fun i w' => i ≤ s.length ∧ ∃ st qs, wholeF name wh (s.length - i) i st (s.drop i) = wholeF name wh s.length 0 sc0 s ∧ st.over = false ∧ st.Ok i ∧
        Sep w w' (scPlots b name wh st qs [pOwn b8 [ptrAt (pb b) 0], pLoop lr (rc .ready none), pDef D, pOwn bA [.slice q s.length c], pRow 1 q s.length c (bs s), pOwn b7 [int 0], pOwn b6 [.bool false], pOwn b5 [int 0], pOwn b4 [str []]]))
      (fun i w' => wholeR name wh s = ((wholeR name wh s).1, i + 1, true) ∧ ∃ st qs, Sep w w' (scPlots b name wh st qs [pOwn b8 [ptrAt (pb b) 0], pLoop lr (rc .done (some .ret)), pDef D, pOwn bA [.slice q s.length c], pRow 1 q s.length c (bs s), pOwn b7 [int 0], pOwn b6 [.bool true], pOwn b5 [int (i + 1 : Nat)], pOwn b4 [str (wholeR name wh s).1]]))
      ?_ ?_ ?_ w10 ⟨Nat.zero_le _, sc0, scP0, rfl, rfl, ok_sc0, hS⟩) ?_
    · rintro i w' ⟨_, st, qs, _, _, _, hS⟩
      exact ⟨hS.own 7 rfl, hS.im 8 rfl⟩
    · rintro i w' w'' ⟨h1, st, qs, h2, h3, h4, hS⟩ hf
      exact ⟨h1, st, qs, h2, h3, h4, hS.grow hf⟩
    · clear hS
      subst hrc
      rintro i w' ⟨h1, st, qs, h2, h3, h4, hS⟩ hlt
      have hpos : 0 < (s.drop i).length := by simp; omega
      obtain ⟨r, hr, hg⟩ := pieceR_good (s.drop i) hpos
      have hpr := pieceR_rng (s.drop i) hpos
      have hdl : (s.drop i).length = s.length - i := by simp
      rw [wholeF_cons hpos (by omega), hr, Int.toNat_natCast, List.drop_drop] at h2
      rw [hr]
      have hok := ok_put (name := name) (wh := wh) h4 hg
      have hput := fun w2 cs (hS : Sep w w2 (scPlots b name wh st qs cs)) => rawPut_ok b name wh st qs r i hg h4 (by omega) hnm h3 w w2 cs hS
      have hkeep := put_keep name wh st r h3
      generalize putR name wh st r = st2 at *
      generalize (pieceR (s.drop i)).2.1 = m at *
      refine yld_of (hS.loopAt 5 rfl) rfl (by kernel_rfl) ?_
      refine sgo ?_
      refine ⟨hS.loopAt 5 rfl, fun w11 hl11 hL11 => ?_⟩
      replace hS := hS.turnLoop 5 rfl hl11 hL11
      have hS' := hS
      unfold scPlots at hS'
      refine sgo ?_
      clear hS'
      refine wlcall (hput _ _ hS) ?_
      rintro _ w12 ⟨q2, rfl, hS⟩
      have hS' := hS
      unfold scPlots at hS'
      cases hov : st2.over with
      | true =>
        rw [hov, if_pos rfl] at h2
        have hW : wholeR name wh s = (st2.sure.flatMap encR, i + 1, true) := by
          unfold wholeR
          rw [← h2]
          rcases hkeep with ⟨k1, _⟩ | ⟨k1, _⟩
          · rw [k1] at hov; cases hov
          · rw [k1]
            simp
        refine sgo ?_
        clear hS'
        refine wlcall (rawTake_ok b name wh st2 q2 hok.6.1 _ _ _ hS) ?_
        rintro _ w13 ⟨q3, rfl, hS⟩
        refine sgo ?_
        refine sst_str hS 12 fun w14 hS => ?_
        refine sgo ?_
        refine sst_int hS 11 fun w15 hS => ?_
        refine sgo ?_
        refine sst_bool hS 10 fun w16 hS => ?_
        refine sgo ?_
        refine sst_int hS 9 fun w17 hS => ?_
        refine sgo ?_
        refine rnd_ret (hS.loopAt 5 rfl) fun w18 hl18 hL18 => ?_
        replace hS := hS.turnLoop 5 rfl hl18 hL18
        refine ⟨by rw [hW], { st2 with sure := [] }, q3, ?_⟩
        rw [hW]
        exact hS
      | false =>
        rw [hov, if_neg (by simp)] at h2
        refine sgo ?_
        refine rnd_normal (hS.loopAt 5 rfl) fun w18 hl18 hL18 => ?_
        refine ⟨by omega, st2, q2, ?_, hov, hok.mono (by omega), hS.turnLoop 5 rfl hl18 hL18⟩
        rw [← h2, show s.length - (i + m) = s.length - i - m by omega]
    · clear hS
      rintro v w11 (⟨-, st, qs, h2, h3, h4, hS⟩ | ⟨i, hi, hW, st, qs, hS⟩)
      · refine ⟨.ready, none, by simp, by rw [← hrc]; exact hS.loopAt 5 rfl, fun w12 hl12 => aft_none ?_⟩
        rw [List.drop_length, Nat.sub_self] at h2
        have hW : wholeR name wh s = ((st.sure ++ st.held).flatMap encR, s.length, false) := by
          unfold wholeR
          rw [← h2, wholeF]
          dsimp only
          rw [h3]
        replace hS := Sep.lose (hS.front 5 rfl) hl12
        replace hS := (((hS.front 3 rfl).front 3 rfl).front 3 rfl).front 3 rfl
        replace hS : Sep w w12 (scPlots b name wh st qs [pOwn b8 [ptrAt (pb b) 0], pDef D, pOwn bA [.slice q s.length c], pRow 1 q s.length c (bs s), pOwn b7 [int 0], pOwn b6 [.bool false], pOwn b5 [int 0], pOwn b4 [str []]]) := hS
        have hS' := hS
        unfold scPlots at hS'
        refine sgo ?_
        clear hS'
        refine wlcall (rawEnd_ok b name wh st qs s.length h4 (by omega) h3 _ _ _ hS) ?_
        rintro _ w13 ⟨q2, rfl, hS⟩
        have hS' := hS
        unfold scPlots at hS'
        refine sgo ?_
        clear hS'
        refine wlcall (rawTake_ok b name wh _ q2 (fun x hx => (List.mem_append.1 hx).elim (h4.6.1 x) (h4.6.2.1 x)) _ _ _ hS) ?_
        rintro _ w14 ⟨q3, rfl, hS⟩
        refine sgo ?_
        refine sst_str hS 11 fun w14 hS => ?_
        refine sgo ?_
        refine sst_int hS 10 fun w15 hS => ?_
        refine sgo ?_
        refine sst_bool hS 9 fun w16 hS => ?_
        refine sgo ?_
        refine sst_int hS 8 fun w17 hS => ?_
        refine sgo ?_
        refine fp_mark (.inl rfl) (hS.noDef 5 rfl) ?_
        replace hS := (hS.front 5 rfl).undef
        refine fpc4 (.inl rfl) rfl rfl ⟨rfl, rfl, rfl, rfl⟩ ⟨hS.own 10 rfl, hS.own 9 rfl, hS.own 8 rfl, hS.own 7 rfl⟩ ⟨?_, hS.frm⟩
        rw [hW]
        all_goals rfl
      · refine ⟨.done, some .ret, by simp, by rw [← hrc]; exact hS.loopAt 5 rfl, fun w12 hl12 => aft_ret ?_⟩
        replace hS := Sep.lose (hS.front 5 rfl) hl12
        refine sgo ?_
        refine fp_mark (.inl rfl) (hS.noDef 5 rfl) ?_
        replace hS := (hS.front 5 rfl).undef
        refine fpc4 (.inl rfl) rfl rfl ⟨rfl, rfl, rfl, rfl⟩ ⟨hS.own 10 rfl, hS.own 9 rfl, hS.own 8 rfl, hS.own 7 rfl⟩ ⟨?_, hS.frm⟩
        rw [hW]
        all_goals rfl
end Go.Proofs.YtkclldfejembnaaDoor

/-
  Package raw: Safe. The laws RawNames, RawNones, RawSafe.
-/
set_option linter.unusedSimpArgs false
set_option linter.unusedVariables false
set_option linter.unnecessarySimpa false
namespace Go.Proofs.YtkclldfejembnaaDoor
open Go Go.Sv Go.RowKit

theorem num10_ok (e : Int) (w : World) : PureC Tryd.prog 8 #[int e] w (int e) := by
  refine enter (l := [int e]) Tryd.func8 rfl Tryd.ntmps8 (by kernel_rfl) rfl ?_
  refine sgo ?_
  (first | refine fp1 (.inl rfl) rfl rfl ?_ | refine fp2 (.inl rfl) rfl rfl rfl ?_ | refine fp3 (.inl rfl) rfl rfl rfl rfl ?_ | refine fp0 (.inr rfl) rfl ?_ | refine fp0 (.inl rfl) rfl ?_ | refine fp1 (.inr rfl) rfl rfl ?_); refine ⟨?_, by (first | exact Frm.refl _ | assumption | exact Go.Sv.Sep.frm (by assumption) | (refine Frm.trans ?_ (by assumption); first | exact Frm.refl _ | assumption))⟩; (try simp only [realB, rv_true, Nat.reduceBEq, cond_true, cond_false, entG, real_lif, updGL])
  all_goals rfl
def awkA : List UInt8 := [97, 60, 47, 98, 62, 60, 47, 84, 73, 84, 76, 69, 32, 120, 62, 99]
def awkB : List UInt8 := [60, 33, 45, 45, 62, 60, 115, 99, 114, 105, 112, 116, 62, 60, 47, 115, 99, 114, 105, 112, 116, 62]
def titN : List UInt8 := [116, 105, 116, 108, 101]
theorem awk_a : rawWholeV titN awkA = .tuple #[str [97, 60, 47, 98, 62], int (13 : Nat), .bool true, int 0] := by
  unfold rawWholeV
  rw [show whereR titN = 1 from by decide +kernel, if_neg (by decide), show wholeR titN 1 awkA = ([97, 60, 47, 98, 62], 13, true) from by decide +kernel]
theorem awk_b : rawWholeV scrN awkB = .tuple #[str [60, 33, 45, 45, 62, 60, 115, 99, 114, 105, 112, 116, 62], int (22 : Nat), .bool true, int 0] := by
  unfold rawWholeV
  rw [show whereR scrN = 3 from by decide +kernel, if_neg (by decide), show wholeR scrN 3 awkB = ([60, 33, 45, 45, 62, 60, 115, 99, 114, 105, 112, 116, 62], 22, true) from by decide +kernel]
set_option maxHeartbeats 1000000 in
theorem awake10_ok (w : World) (hA : Asc w) : PureC Tryd.prog 9 #[] w (.bool true) := by
  refine enter (l := []) Tryd.func9 rfl Tryd.ntmps9 (by kernel_rfl) rfl ?_
  refine sgo ?_
  refine wlpure (whole_ok titN awkA (by decide) (by decide) _ hA) fun w1 hf1 => ?_
  rw [awk_a]
  refine sgo ?_
  refine wlpure (whole_ok scrN awkB (by decide) (by decide) _ (hA.frm hf1)) fun w2 hf2 => ?_
  rw [awk_b]
  refine sgo ?_
  refine wlpure (num10_ok _ _) fun w3 hf3 => ?_
  refine sgo ?_
  refine wlcallgp (vals := [int 0]) (fun _ => num10_ok _ _) fun w4 hf4 => ?_
  refine sgo ?_
  have hf := ((hf1.trans hf2).trans hf3).trans hf4
  clear hf1 hf2 hf3 hf4
  (first | refine fp1 (.inl rfl) rfl rfl ?_ | refine fp2 (.inl rfl) rfl rfl rfl ?_ | refine fp3 (.inl rfl) rfl rfl rfl rfl ?_ | refine fp0 (.inr rfl) rfl ?_ | refine fp0 (.inl rfl) rfl ?_ | refine fp1 (.inr rfl) rfl rfl ?_); refine ⟨?_, by (first | exact Frm.refl _ | assumption | exact Go.Sv.Sep.frm (by assumption) | (refine Frm.trans ?_ (by assumption); first | exact Frm.refl _ | assumption))⟩; (try simp only [realB, rv_true, Nat.reduceBEq, cond_true, cond_false, entG, real_lif, updGL])
  all_goals rfl
theorem rawNames_ok (w : World) (hA : Asc w) : PureC Tryd.prog 3 #[] w (.bool true) := by
  refine enter (l := []) Tryd.func3 rfl Tryd.ntmps3 (by kernel_rfl) rfl ?_
  refine sgo ?_
  refine wlpure (num10_ok _ _) fun w1 hf1 => ?_
  refine sgo ?_
  refine wlcallgp (vals := []) (fun _ => awake10_ok _ (hA.frm hf1)) (fun w2 hf2 => ?_) (ha := fun _ => rfl)
  refine sgo ?_
  have hf := hf1.trans hf2
  clear hf1 hf2
  (first | refine fp1 (.inl rfl) rfl rfl ?_ | refine fp2 (.inl rfl) rfl rfl rfl ?_ | refine fp3 (.inl rfl) rfl rfl rfl rfl ?_ | refine fp0 (.inr rfl) rfl ?_ | refine fp0 (.inl rfl) rfl ?_ | refine fp1 (.inr rfl) rfl rfl ?_); refine ⟨?_, by (first | exact Frm.refl _ | assumption | exact Go.Sv.Sep.frm (by assumption) | (refine Frm.trans ?_ (by assumption); first | exact Frm.refl _ | assumption))⟩; (try simp only [realB, rv_true, Nat.reduceBEq, cond_true, cond_false, entG, real_lif, updGL])
  all_goals rfl
/-- may a text stand there? -/
def safeR (name s : List UInt8) : Bool := decide (whereR name ≠ 0) && ((wholeR name (whereR name) (s ++ [60, 47] ++ name ++ [62])).2.2 && (decide ((wholeR name (whereR name) (s ++ [60, 47] ++ name ++ [62])).1 = mendR s) && decide ((wholeR name (whereR name) (s ++ [60, 47] ++ name ++ [62])).2.1 = (s ++ [60, 47] ++ name ++ [62]).length)))
def errR (name : List UInt8) : Int := if whereR name = 0 then 100 else 0
theorem rawSafe_ok (name s : List UInt8) (hnm : name.length ≤ 1048576) (hb : s.length ≤ 1048576) (w : World) (hA : Asc w) : PureC Tryd.prog 21 #[str name, str s] w (.tuple #[.bool (safeR name s), int (errR name)]) := by
  have hW := fun w hA => whole_ok name (s ++ [60, 47] ++ name ++ [62]) (by omega) (by simp; omega) w hA
  have hlen : (s ++ [60, 47] ++ name ++ [62]).length ≤ 3000000 := by simp; omega
  unfold safeR errR
  unfold rawWholeV at hW
  refine enter (l := [str name, str s]) Tryd.func21 rfl Tryd.ntmps21 (by kernel_rfl) rfl ?_
  generalize hall : s ++ [60, 47] ++ name ++ [62] = all at *
  generalize whereR name = wh at *
  generalize wholeR name wh all = r at *
  obtain ⟨t, n, ok⟩ := r
  dsimp only at hW ⊢
  by_cases h0 : wh = 0
  · simp only [if_pos h0] at hW
    rw [if_pos h0, decide_eq_false (by omega), Bool.false_and]
    refine sgo ?_
    rw [hall]
    refine wlpure (hW _ hA) fun w1 hf1 => ?_
    refine sgo ?_
    refine wlcallgp (vals := [str s]) (fun _ => mend_ok s (by omega) _) (fun w2 hf2 => ?_)
    refine sgo ?_
    have hf := hf1.trans hf2
    clear hf1 hf2
    (first | refine fp1 (.inl rfl) rfl rfl ?_ | refine fp2 (.inl rfl) rfl rfl rfl ?_ | refine fp3 (.inl rfl) rfl rfl rfl rfl ?_ | refine fp0 (.inr rfl) rfl ?_ | refine fp0 (.inl rfl) rfl ?_ | refine fp1 (.inr rfl) rfl rfl ?_); refine ⟨?_, by (first | exact Frm.refl _ | assumption | exact Go.Sv.Sep.frm (by assumption) | (refine Frm.trans ?_ (by assumption); first | exact Frm.refl _ | assumption))⟩; (try simp only [realB, rv_true, Nat.reduceBEq, cond_true, cond_false, entG, real_lif, updGL])
    all_goals rfl
  · simp only [if_neg h0] at hW
    rw [if_neg h0, decide_eq_true (by omega), Bool.true_and]
    refine sgo ?_
    rw [hall]
    refine wlpure (hW _ hA) fun w1 hf1 => ?_
    refine sgo ?_
    refine wlcallgp (vals := [str s]) (fun _ => mend_ok s (by omega) _) (fun w2 hf2 => ?_)
    refine sgo ?_
    have hf := hf1.trans hf2
    clear hf1 hf2
    (first | refine fp1 (.inl rfl) rfl rfl ?_ | refine fp2 (.inl rfl) rfl rfl rfl ?_ | refine fp3 (.inl rfl) rfl rfl rfl rfl ?_ | refine fp0 (.inr rfl) rfl ?_ | refine fp0 (.inl rfl) rfl ?_ | refine fp1 (.inr rfl) rfl rfl ?_); refine ⟨?_, by (first | exact Frm.refl _ | assumption | exact Go.Sv.Sep.frm (by assumption) | (refine Frm.trans ?_ (by assumption); first | exact Frm.refl _ | assumption))⟩; (try simp only [realB, rv_true, Nat.reduceBEq, cond_true, cond_false, entG, real_lif, updGL])
    refine congrArg (fun b => Value.tuple #[.bool b, int 0]) ?_
    rw [Bool.eq_iff_iff]
    simp only [pkb_and, decide_true, Bool.true_and, Bool.and_eq_true, decide_eq_true_eq, and_assoc, Int.natCast_inj]

/-- what is safe stays -/
theorem safe_stays {name s : List UInt8} (u : List UInt8) (h : safeR name s = true) : wholeR name (whereR name) (s ++ ([60, 47] ++ name ++ [62]) ++ u) = (mendR s, (s ++ ([60, 47] ++ name ++ [62])).length, true) := by
  unfold safeR at h
  simp only [Bool.and_eq_true, decide_eq_true_eq] at h
  obtain ⟨-, h1, h2, h3⟩ := h
  have e0 : s ++ [60, 47] ++ name ++ [62] = s ++ ([60, 47] ++ name ++ [62]) := by simp
  rw [e0] at h1 h2 h3
  generalize s ++ ([60, 47] ++ name ++ [62]) = all at *
  rcases whole_split name (whereR name) all with ⟨a, c, b, k1, k2, k3, k4, k5⟩ | ⟨k1, k2⟩
  · rw [k5] at h2 h3
    dsimp only at h2 h3
    have hb : b = [] := by
      have := congrArg List.length k1
      simp only [List.length_append, List.length_cons] at this
      exact List.eq_nil_of_length_eq_zero (by omega)
    subst hb
    have := whole_at (b := u) (stopN_lt k2) k3 k4
    rw [k1, List.append_assoc, List.cons_append, List.nil_append, this, h2]
    congr 2
    simp
  · rw [k2] at h1
    cases h1
theorem safe_where {name s : List UInt8} (h : safeR name s = true) : whereR name ≠ 0 := by
  unfold safeR at h
  simp only [Bool.and_eq_true, decide_eq_true_eq] at h
  exact h.1
theorem safe_none {name s : List UInt8} (h : whereR name = 0) : safeR name s = false := by
  unfold safeR
  rw [decide_eq_false (by omega), Bool.false_and]
set_option maxHeartbeats 1000000 in
theorem rawSafeLaw_ok (name s u : List UInt8) (hb : name.length + s.length + u.length ≤ 1048576) (w : World) (hA : Asc w) : PureC Tryd.prog 7 #[str name, str s, str u] w (.bool true) := by
  have hW := fun w hA => whole_ok name (s ++ ([60, 47] ++ name ++ [62]) ++ u) (by omega) (by simp; omega) w hA
  have hstay := fun h => safe_stays (name := name) (s := s) u h
  have hsafe := fun w hA => rawSafe_ok name s (by omega) (by omega) w hA
  have hnone := fun h => safe_none (name := name) (s := s) h
  have hwhere := fun h => safe_where (name := name) (s := s) h
  unfold rawWholeV at hW
  unfold errR at hsafe
  refine enter (l := [str name, str s, str u]) Tryd.func7 rfl Tryd.ntmps7 (by kernel_rfl) rfl ?_
  generalize whereR name = wh at *
  generalize safeR name s = sf at *
  refine sgo ?_
  refine wlpure (hsafe _ hA) fun w1 hf1 => ?_
  refine sgo ?_
  refine wlpure (num10_ok _ _) fun w2 hf2 => ?_
  have hA2 := (hA.frm hf1).frm hf2
  by_cases h0 : wh = 0
  · rw [if_pos h0, hnone h0]
    refine sgo ?_
    refine wlcallgp (vals := []) (fun _ => awake10_ok _ hA2) (fun w3 hf3 => ?_) (ha := fun _ => rfl)
    refine sgo ?_
    have hf := (hf1.trans hf2).trans hf3
    clear hf1 hf2 hf3
    (first | refine fp1 (.inl rfl) rfl rfl ?_ | refine fp2 (.inl rfl) rfl rfl rfl ?_ | refine fp3 (.inl rfl) rfl rfl rfl rfl ?_ | refine fp0 (.inr rfl) rfl ?_ | refine fp0 (.inl rfl) rfl ?_ | refine fp1 (.inr rfl) rfl rfl ?_); refine ⟨?_, by (first | exact Frm.refl _ | assumption | exact Go.Sv.Sep.frm (by assumption) | (refine Frm.trans ?_ (by assumption); first | exact Frm.refl _ | assumption))⟩; (try simp only [realB, rv_true, Nat.reduceBEq, cond_true, cond_false, entG, real_lif, updGL])
    all_goals rfl
  · rw [if_neg h0]
    simp only [if_neg h0] at hW
    refine sgo ?_
    refine wlpure (hW _ hA2) fun w3 hf3 => ?_
    refine sgo ?_
    refine wlpure (num10_ok _ _) fun w4 hf4 => ?_
    have hA4 := (hA2.frm hf3).frm hf4
    have hf := ((hf1.trans hf2).trans hf3).trans hf4
    clear hf1 hf2 hf3 hf4
    refine sgo ?_
    cases sf with
    | false =>
      refine sgo ?_
      refine wlpure (awake10_ok _ hA4) fun w5 hf5 => ?_
      refine sgo ?_
      replace hf := hf.trans hf5
      clear hf5
      (first | refine fp1 (.inl rfl) rfl rfl ?_ | refine fp2 (.inl rfl) rfl rfl rfl ?_ | refine fp3 (.inl rfl) rfl rfl rfl rfl ?_ | refine fp0 (.inr rfl) rfl ?_ | refine fp0 (.inl rfl) rfl ?_ | refine fp1 (.inr rfl) rfl rfl ?_); refine ⟨?_, by (first | exact Frm.refl _ | assumption | exact Go.Sv.Sep.frm (by assumption) | (refine Frm.trans ?_ (by assumption); first | exact Frm.refl _ | assumption))⟩; (try simp only [realB, rv_true, Nat.reduceBEq, cond_true, cond_false, entG, real_lif, updGL])
      all_goals rfl
    | true =>
      rw [hstay rfl]
      refine sgo ?_
      refine wlcallgp (vals := [str s]) (fun _ => refMend_ok s (by omega) _) (fun w5 hf5 => ?_)
      refine sgo ?_
      refine wlcallgp (vals := []) (fun _ => awake10_ok _ (hA4.frm hf5)) (fun w6 hf6 => ?_) (ha := fun _ => rfl)
      refine sgo ?_
      replace hf := (hf.trans hf5).trans hf6
      clear hf5 hf6
      (first | refine fp1 (.inl rfl) rfl rfl ?_ | refine fp2 (.inl rfl) rfl rfl rfl ?_ | refine fp3 (.inl rfl) rfl rfl rfl rfl ?_ | refine fp0 (.inr rfl) rfl ?_ | refine fp0 (.inl rfl) rfl ?_ | refine fp1 (.inr rfl) rfl rfl ?_); refine ⟨?_, by (first | exact Frm.refl _ | assumption | exact Go.Sv.Sep.frm (by assumption) | (refine Frm.trans ?_ (by assumption); first | exact Frm.refl _ | assumption))⟩; (try simp only [realB, rv_true, Nat.reduceBEq, cond_true, cond_false, entG, real_lif, updGL])
      refine congrArg Value.bool ?_
      simp [pkb]
end Go.Proofs.YtkclldfejembnaaDoor

/-
  From a frame to what a row asks behind the call: nothing that was there has turned (new blocks may be frozen).
-/
set_option linter.unusedSimpArgs false
set_option linter.unusedVariables false
set_option linter.unnecessarySimpa false
namespace Go.ChangeShapes
section
variable {H : Type} {enc : TypeId × Value → H} {P : Program}
theorem post_frm {f : Func} {s : ChangeSpec} {apart fresh handsOn again : Bool} {W W' : World} {args : Array Value} {v : Value} {ds gs : List (DataW H)} {before pa pv : List MemPlace}
    (hW : DataW.Whole enc P f.params.toList s.vars apart W args.toList ds gs before)
    (hres : ∀ (b : Nat) (sp : Nat → Bool) (hd : Bool), DataW.TrodAll enc P W' b sp hd f.resultTypes.toList (v.resultList f.resultTypes.size) (s.fn H (ds ++ gs)).results [])
    (hargs : ∀ sp : Nat → Bool, (∀ p ∈ before, sp p.block = true) → DataW.TrodAll enc P W' 0 sp true f.params.toList args.toList (s.fn H (ds ++ gs)).args pa)
    (hvars : ∀ sp : Nat → Bool, (∀ p ∈ before, sp p.block = true) → DataW.TrodVars enc P W' sp s.vars (s.fn H (ds ++ gs)).vars pv)
    (hps : before = pa ++ pv) (hk : Sv.Frm W W')
    (hok : ∀ (j : Nat) (t : TypeId) (r : Value), f.resultTypes[j]? = some t → (v.resultList f.resultTypes.size)[j]? = some r → Value.okWide P W' .any 0 t r) :
    s.post enc P f apart fresh handsOn again W args v W' := by
  have hold : ∀ p ∈ before, (fun b => decide (b < W.heap.size)) p.block = true := fun p hp => by simpa using hW.lt p hp
  refine ⟨ds, gs, before, [], pa, pv, hW, hres _ _ _, hargs _ hold, hvars _ hold, World.keptBut_mono (fun p hp => ⟨hp, ?_⟩) (RowKit.Below.frame hk (· ∈ before)), fun _ => ?_⟩
  · rw [hps, List.mem_append] at hp
    exact Or.inr hp
  · have hlt := hW.lt
    obtain ⟨_, _, _, _, _, hz, hn⟩ := hW
    refine ⟨hok, _, _, ([] ++ pa) ++ pv, ⟨[] ++ pa, pv, trodAll_append (hargs _ (fun _ _ => rfl)) (hres _ _ _), hvars _ (fun _ _ => rfl), rfl, ?_, ?_⟩, ?_⟩
    · intro b off hp
      have hp' : (.cell b off : MemPlace) ∈ before := by rw [hps]; simpa using hp
      rw [RowKit.Below.frozen hk (hlt _ hp')]
      exact hz b off hp'
    · intro ha
      have := hn ha
      rw [hps] at this
      simpa using this
    · intro p hp _
      rw [hps]
      simpa using hp
end
end Go.ChangeShapes

/-
  From a reading of the arguments to what lies in memory; and back: a law leaves the arguments as they were.
-/
set_option linter.unusedSimpArgs false
set_option linter.unusedVariables false
set_option linter.unnecessarySimpa false
namespace Go.Sv
open Go Go.RowKit Go.ChangeShapes Go.WideShapes
/-- a law's ending: it answered true, and left all as it was -/
theorem trodAll_frm {H : Type} {enc : TypeId × Value → H} {P : Program} (hl : laidOutB P = true) {W W' : World} (hf : Sv.Frm W W') {sp : Nat → Bool} : ∀ {ts : List TypeId} {vs : List Value} {ds : List (DataW H)} {ps : List MemPlace},
    (∀ t ∈ ts, P.readableRec t = true ∧ t < P.types.size) → DataW.TrodAll enc P W 0 (fun _ => true) true ts vs ds ps → (∀ p ∈ ps, p.block < W.heap.size) → (∀ p ∈ ps, sp p.block = true) → DataW.TrodAll enc P W' 0 sp true ts vs ds ps
  | [], [], [], _, _, h, _, _ => h
  | t :: ts, v :: vs, d :: ds, _, ht, ⟨p, q, h1, h2, e⟩, hlt, hs => by
    subst e
    refine ⟨p, q, ?_, ?_, rfl⟩
    · obtain ⟨hr, hrow⟩ := ht t List.mem_cons_self
      exact WideElems.Trod_stays hl hr hrow h1 (fun x hx => RowKit.Below.same hf (hlt x (List.mem_append_left _ hx))) fun x hx => hs x (List.mem_append_left _ hx)
    · exact trodAll_frm hl hf (fun t ht' => ht t (List.mem_cons_of_mem _ ht')) h2 (fun x hx => hlt x (List.mem_append_right _ hx)) fun x hx => hs x (List.mem_append_right _ hx)
theorem law_ends {H : Type} {enc : TypeId × Value → H} {P : Program} {f : Func} {s : ChangeSpec} {W W' : World} {args : Array Value} {ds gs : List (DataW H)} {before : List MemPlace} {tb : TypeId}
    (hl : laidOutB P = true) (hT : ∀ t ∈ f.params.toList, P.readableRec t = true ∧ t < P.types.size) (hv : s.vars = []) (hrt : f.resultTypes = #[tb]) (hb : P.underlying tb = some .bool)
    (hW : DataW.Whole enc P f.params.toList s.vars false W args.toList ds gs before) (hfn : s.fn H (ds ++ gs) = { results := [.lit (.bool true)], args := ds ++ gs }) (hg : Frm W W') :
    s.post enc P f false true false false W args (.bool true) W' := by
  have hW' := hW
  have hlt := hW.lt
  obtain ⟨p, q, hA, hV, rfl, _, _⟩ := hW
  rw [hv] at hV
  obtain ⟨rfl, rfl⟩ := trodVars_none hV
  have hrl : (Value.bool true).resultList f.resultTypes.size = [.bool true] := by rw [hrt]; rfl
  simp only [List.append_nil] at hlt hfn
  refine post_frm (pa := p) (pv := []) hW' (fun _ _ _ => ?_) (fun sp hsp => ?_) (fun _ _ => ?_) rfl hg (ok_one hrt rfl (okWide_bool_mk hb _))
  · rw [hrt]
    simp only [List.append_nil, hfn]
    exact trodAll_cons_mk (shut_bool hb _) trodAll_mk0
  · simp only [List.append_nil, hfn]
    exact trodAll_frm hl hg hT hA hlt (fun x hx => hsp x (by simpa using hx))
  · simp only [List.append_nil, hfn, hv]
    rfl
end Go.Sv
namespace Go.Proofs.YtkclldfejembnaaDoor
open Go Go.Sv Go.RowKit Go.ChangeShapes Go.WideShapes Go.Deep

theorem laidOut : laidOutB Tryd.prog = true := by kernel_rfl
theorem own : ownKnob Tryd.prog.godebug = none := by kernel_rfl

section
variable {H : Type} {P : Program} {enc : TypeId × Value → H} {w : World} {base : Nat} {spare : Nat → Bool} {held : Bool}
theorem bulkAll_eq : ∀ l : List (DataW H), Rows.uptoBulkAll l = (l.map Rows.uptoBulk).sum
  | [] => by simp [Rows.uptoBulkAll]
  | d :: l => by simp only [Rows.uptoBulkAll, List.map_cons, List.sum_cons, bulkAll_eq l]
theorem bulk_str (l : List UInt8) : Rows.uptoBulk (.lit (.string l) : DataW H) = l.length + 1 := by simp only [Rows.uptoBulk]
theorem bulk_int (k : IntKind) (n : Int) : Rows.uptoBulk (.lit (.int k n) : DataW H) = 1 := by simp only [Rows.uptoBulk]
theorem str_of (s : ByteArray) : Value.string s = str s.data.toList := by cases s; rfl
/-- a cell that is a text -/
theorem open_strc {t : TypeId} {fuel : Nat} {cs : List Value} {x : DataW H × List MemPlace} (ht : P.underlying t = some .string) (h : DataW.trod enc P w base spare held fuel t cs = some x) : ∃ l : List UInt8, cs = [str l] ∧ Rows.uptoBulk x.1 = l.length + 1 := by
  obtain ⟨s, rfl, rfl, _⟩ := DataW.trod_string ht h
  exact ⟨s.data.toList, by rw [str_of], bulk_str _⟩
theorem open_intc {t : TypeId} {k : IntKind} {fuel : Nat} {cs : List Value} {x : DataW H × List MemPlace} (ht : P.underlying t = some (.int k)) (h : DataW.trod enc P w base spare held fuel t cs = some x) : ∃ n : Int, cs = [.int k n] ∧ k.min ≤ n ∧ n ≤ k.max ∧ Rows.uptoBulk x.1 = 1 := by
  obtain ⟨n, rfl, rfl, hw⟩ := DataW.trod_int ht h
  simp only [Lit.wf, IntKind.has, Bool.and_eq_true, decide_eq_true_eq] at hw
  exact ⟨n, rfl, hw.1, hw.2, bulk_int _ _⟩
theorem small_le {ds : List (DataW H)} (hk : Rows.uptoSmall H ds = true) : (ds.map Rows.uptoBulk).sum ≤ 1048576 := by
  have := of_decide_eq_true hk
  rwa [bulkAll_eq] at this
end
end Go.Proofs.YtkclldfejembnaaDoor

/-
  Readings of arguments of one cell: texts.
-/
set_option linter.unusedSimpArgs false
set_option linter.unusedVariables false
set_option linter.unnecessarySimpa false
namespace Go.Proofs.YtkclldfejembnaaDoor
open Go Go.Sv Go.RowKit Go.ChangeShapes Go.WideShapes Go.Deep
section
variable {H : Type} {enc : TypeId × Value → H} {w : World} {base : Nat} {spare : Nat → Bool} {held : Bool}
set_option maxRecDepth 100000 in
theorem open_str1 {v : Value} {d : DataW H} {ps : List MemPlace} {r : Reach} {b0 : Nat} (hv : Value.okWide Tryd.prog w r b0 9 v) (h : DataW.Trod enc Tryd.prog w base spare held 9 v d ps) :
    ∃ l : List UInt8, v = str l ∧ l.length + 1 ≤ Rows.uptoBulk d := by
  obtain ⟨s, rfl⟩ := okWide_string Tryd.underlying9 hv
  obtain ⟨fuel, hf⟩ := h
  obtain ⟨l, e, hw⟩ := open_strc Tryd.underlying9 hf
  dsimp only at hw
  exact ⟨l, by simpa [Value.cells] using e, by omega⟩
end
end Go.Proofs.YtkclldfejembnaaDoor

/-
  What a row's list says of the table of blanks; a world for the witness.
-/
set_option linter.unusedSimpArgs false
set_option linter.unusedVariables false
set_option linter.unnecessarySimpa false
namespace Go.Proofs.YtkclldfejembnaaDoor
open Go Go.Sv Go.RowKit Go.ChangeShapes Go.WideShapes Go.ChangeAt

theorem laid_at {P : Program} {W : World} {name : String} {d : DataW Unit} : ∀ {laid : List (String × DataW Unit)} {ps : List MemPlace}, DataW.LaidVars P W laid ps → (name, d) ∈ laid →
    ∃ g t cs fuel p, P.globalNamed name = some g ∧ (P.globals[g]?).map (·.type) = some t ∧ W.var? P name = some cs ∧ DataW.trod (fun _ => ()) P W 0 (fun _ => true) false fuel t cs.toList = some (d, p)
  | [], _, _, hm => by cases hm
  | x :: laid, ps, h, hm => by
    obtain ⟨g', t', cs, fuel, p, q, hg', ht', hvar, hd, hr, _⟩ := h
    rcases List.mem_cons.1 hm with rfl | hm
    · exact ⟨g', t', cs, fuel, p, hg', ht', hvar, hd⟩
    · exact laid_at hr hm
theorem gAscType : (Tryd.prog.globals[0]?).map (·.type) = some 70 := by kernel_rfl
set_option maxRecDepth 100000 in
theorem asc_of {W : World} {laid : List (String × DataW Unit)} (h : laidMet Tryd.prog laid W) (hm : ("strings.asciiSpace", Rows.laid_strings_asciiSpace) ∈ laid) : Asc W := by
  obtain ⟨ps, hL, _⟩ := h
  obtain ⟨g', t', cs, fuel, p, hg', ht', hvar, hd⟩ := laid_at hL hm
  obtain rfl := Option.some.inj (gAsc.symm.trans hg')
  obtain rfl := Option.some.inj (gAscType.symm.trans ht')
  have e : (Rows.laid_strings_asciiSpace : DataW Unit) = Lib.tabData .u8 Lib.asciiSpaceTab := by kernel_rfl
  rw [e] at hd
  unfold Asc Lib.TabIs
  rw [hvar, ← Lib.cells_of_tab Tryd.underlying70 Tryd.underlying5 (by kernel_rfl) (by kernel_rfl) hd]
/-- a world for the witness: the variables hold what their initialisers lay -/
noncomputable def ascHeap (h : Array Obj) : Array Obj :=
  (((h.modify 0 fun | .cells _ t f => .cells (Lib.asciiSpaceTab.map fun z => Value.int .u8 z).toArray t f | o => o).modify 1 fun
    | .cells _ t f => .cells #[.pointer (some ⟨h.size, 0, none⟩)] t f | o => o).push (.cells #[.slice (some ⟨h.size + 1, 0, none⟩) 7 7, .slice none 0 0, .int .i64 2] 91 (0, 0))).push
    (.cells (([9, 13, 1, 32, 133, 101, 160, 5760, 5600, 8192, 8202, 1, 8232, 8233, 1, 8239, 8287, 48, 12288, 12288, 1] : List Int).map fun z => Value.int .u16 z).toArray 94 (0, 0))
noncomputable def ascWorld (os : Os) : World := { World.holding Tryd.prog os ⟨#[], #[], []⟩ with heap := ascHeap (World.holding Tryd.prog os ⟨#[], #[], []⟩).heap }
end Go.Proofs.YtkclldfejembnaaDoor

/-
  Readings of arguments of one cell: numbers, truth values.
-/
set_option linter.unusedSimpArgs false
set_option linter.unusedVariables false
set_option linter.unnecessarySimpa false
namespace Go.Proofs.YtkclldfejembnaaDoor
open Go Go.Sv Go.RowKit Go.ChangeShapes Go.WideShapes Go.Deep
set_option maxRecDepth 100000 in
theorem open_int1 {H : Type} {enc : TypeId × Value → H} {w : World} {base : Nat} {spare : Nat → Bool} {held : Bool} {v : Value} {d : DataW H} {ps : List MemPlace} {r : Reach} {b0 : Nat} (hv : Value.okWide Tryd.prog w r b0 3 v) (h : DataW.Trod enc Tryd.prog w base spare held 3 v d ps) :
    ∃ n : Int, v = .int .i64 n ∧ IntKind.min .i64 ≤ n ∧ n ≤ IntKind.max .i64 ∧ 1 ≤ Rows.uptoBulk d := by
  obtain ⟨s, rfl⟩ := okWide_int Tryd.underlying3 hv
  obtain ⟨fuel, hf⟩ := h
  obtain ⟨l, e, h1, h2, hw⟩ := open_intc Tryd.underlying3 hf
  dsimp only at hw
  exact ⟨l, by simpa [Value.cells] using e, h1, h2, by omega⟩
set_option maxRecDepth 100000 in
theorem open_rune1 {H : Type} {enc : TypeId × Value → H} {w : World} {base : Nat} {spare : Nat → Bool} {held : Bool} {v : Value} {d : DataW H} {ps : List MemPlace} {r : Reach} {b0 : Nat} (hv : Value.okWide Tryd.prog w r b0 21 v) (h : DataW.Trod enc Tryd.prog w base spare held 21 v d ps) :
    ∃ n : Int, v = .int .i32 n ∧ IntKind.min .i32 ≤ n ∧ n ≤ IntKind.max .i32 ∧ 1 ≤ Rows.uptoBulk d := by
  obtain ⟨s, rfl⟩ := okWide_int Tryd.underlying21 hv
  obtain ⟨fuel, hf⟩ := h
  obtain ⟨l, e, h1, h2, hw⟩ := open_intc Tryd.underlying21 hf
  dsimp only at hw
  exact ⟨l, by simpa [Value.cells] using e, h1, h2, by omega⟩
end Go.Proofs.YtkclldfejembnaaDoor

