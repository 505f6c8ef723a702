/-
  Our texts SvRtH, SvSaA, SvSaB, SvSaC, SvSaD, SvSaE, SvSaF, SvBaN, SvTokJ, SvNst, SvBaP, joined.
-/
import Derived.Test.YtmnnffenijjpcaaGreatDoorMg7
/-
  Package sieveref04: Trim; package sieveref16: End.
-/
set_option linter.unusedSimpArgs false
set_option linter.unusedVariables false
set_option linter.unnecessarySimpa false
namespace Go.Proofs.YtmnnffenijjpcaaGreatDoor
open Go Go.Sv Go.RowKit

def trimR (s : List UInt8) : List UInt8 := dropE blkR (s.dropWhile blkR)
set_option maxHeartbeats 4000000 in
theorem refTrim_ok (s : List UInt8) (hb : s.length ≤ 1048576) (w : World) : PureC Tryz.prog 98 #[str s] w (str (trimR s)) := by
  have hF : Frm w w := Frm.refl w
  refine enter (l := [str s]) Tryz.func98 rfl Tryz.ntmps98 (by kernel_rfl) rfl ?_
  refine sgo ?_
  refine wcutj (X := List UInt8) (fun x => [(0, str x)]) (fun x wr => Frm w wr ∧ x = s.dropWhile blkR ∧ x.length ≤ 1048576) ?_ ?_
  · refine wcloop (X := List UInt8) (fun x => [(0, str x)]) (fun x wr => Frm w wr ∧ x.length ≤ s.length ∧ x.dropWhile blkR = s.dropWhile blkR) (fun x => x.length) s ⟨rfl, trivial⟩ ⟨hF, Nat.le_refl _, rfl⟩ ?_
    clear hF
    rintro x wr ρ ⟨hF, hl, hd⟩
    cases x with
    | nil =>
      simp only [List.length_nil]
      refine sgo ?_
      refine wlskipg (.bool false) ?_ (hgt := by simp)
      refine sgo ?_
      exact ⟨[], ⟨rfl, trivial⟩, hF, hd, by simp⟩
    | cons y x =>
      have hlen : (y :: x).length = x.length + 1 := rfl
      have h0 : (y :: x)[0]?.getD 0 = y := rfl
      have h1 : (y :: x).drop 1 = x := rfl
      have hdw : (y :: x).dropWhile blkR = if blkR y then x.dropWhile blkR else y :: x := by rw [List.dropWhile_cons]
      generalize hz : y :: x = z at *
      refine sgo ?_
      rw [h0]
      refine wlcallgp (vals := [byt y.toNat]) (fun _ => refBlankB_ok y _) fun w1 hf1 => ?_
      have hlt : decide ((0 : Int) < (z.length : Int)) = true := decide_eq_true (by omega)
      refine sgo ?_
      cases hbk : blkR y with
      | true =>
        rw [hbk, if_pos rfl] at hdw
        refine wcyes ?_ (ht := by rw [pkb_and, hlt]; rfl)
        refine sgo ?_
        refine ⟨x, ⟨?_, trivial⟩, ⟨hF.trans hf1, by omega, hdw ▸ hd⟩, by omega⟩
        exact congrArg str h1
      | false =>
        rw [hbk, if_neg Bool.noConfusion] at hdw
        have e : z = s.dropWhile blkR := by rw [← hd, hdw]
        refine wcno ?_ (ht := by rw [pkb_and, hlt]; rfl)
        refine sgo ?_
        exact ⟨z, ⟨rfl, trivial⟩, hF.trans hf1, e, by omega⟩
  · clear hF
    rintro y w2 ρ ⟨hF, hy, hyl⟩
    unfold trimR
    rw [← hy]
    clear hy
    refine sgo ?_
    refine wcloop (X := List UInt8) (fun x => [(0, str x)]) (fun x wr => Frm w wr ∧ x.length ≤ y.length ∧ dropE blkR x = dropE blkR y) (fun x => x.length) y ⟨rfl, trivial⟩ ⟨hF, Nat.le_refl _, rfl⟩ ?_
    clear hF
    rintro x wr ρ ⟨hF, hl, hd⟩
    rcases snoc_cases8 x with rfl | ⟨x, c, rfl⟩
    · simp only [List.length_nil]
      refine sgo ?_
      refine wlskipg (.bool false) ?_ (hgt := by simp)
      rw [← hd]
      refine sgo ?_
      (first | refine fp1 (.inl rfl) rfl rfl ?_ | refine fp2 (.inl rfl) rfl rfl rfl ?_ | refine fp3 (.inl rfl) rfl rfl rfl rfl ?_ | refine fp0 (.inr rfl) rfl ?_ | refine fp0 (.inl rfl) rfl ?_ | refine fp1 (.inr rfl) rfl rfl ?_); refine ⟨?_, by (first | exact Frm.refl _ | assumption | exact Go.Sv.Sep.frm (by assumption) | (refine Frm.trans ?_ (by assumption); first | exact Frm.refl _ | assumption))⟩; (try simp only [realB, rv_true, Nat.reduceBEq, cond_true, cond_false, entG, real_lif, updGL])
      rfl
    · have hlen : (x ++ [c]).length = x.length + 1 := by simp
      have h0 : (x ++ [c])[((x.length : Nat) : Int).toNat]?.getD 0 = c := by simp
      have h0' : (x ++ [c])[x.length]?.getD 0 = c := by simp
      have h1 : (x ++ [c]).take x.length = x := by simp
      have hdw := dropE_snoc blkR x c
      generalize hz : x ++ [c] = z at *
      have i1 : ((z.length : Int) - 1) = (x.length : Int) := by omega
      refine sgo ?_
      rw [i1]
      refine sgo ?_
      first | rw [h0] | rw [h0']
      refine wlcallgp (vals := [byt c.toNat]) (fun _ => refBlankB_ok c _) fun w1 hf1 => ?_
      have hlt : decide ((0 : Int) < (z.length : Int)) = true := decide_eq_true (by omega)
      refine sgo ?_
      cases hbk : blkR c with
      | true =>
        rw [hbk, if_pos rfl] at hdw
        refine wcyes ?_ (ht := by rw [pkb_and, hlt]; rfl)
        refine sgo ?_
        rw [i1]
        refine sgo ?_
        refine ⟨x, ⟨?_, trivial⟩, ⟨hF.trans hf1, by omega, hdw ▸ hd⟩, by omega⟩
        exact congrArg str h1
      | false =>
        rw [hbk, if_neg Bool.noConfusion] at hdw
        have e : z = dropE blkR y := by rw [← hd, hdw]
        refine wcno ?_ (ht := by rw [pkb_and, hlt]; rfl)
        refine sgo ?_
        (first | refine fp1 (.inl rfl) rfl rfl ?_ | refine fp2 (.inl rfl) rfl rfl rfl ?_ | refine fp3 (.inl rfl) rfl rfl rfl rfl ?_ | refine fp0 (.inr rfl) rfl ?_ | refine fp0 (.inl rfl) rfl ?_ | refine fp1 (.inr rfl) rfl rfl ?_); refine ⟨?_, by (first | exact Frm.refl _ | assumption | exact Go.Sv.Sep.frm (by assumption) | (refine Frm.trans ?_ (by assumption); first | exact Frm.refl _ | assumption))⟩; (try simp only [realB, rv_true, Nat.reduceBEq, cond_true, cond_false, entG, real_lif, updGL])
        rw [e]
/-! ## clean names -/
theorem fgo_none : ∀ (l cur : List UInt8), fgo cur l = [] → cur = [] ∧ ∀ x ∈ l, blkR x = true
  | [], cur, h => by
    unfold fgo at h
    split at h
    · rename_i hc; exact ⟨hc, by simp⟩
    · cases h
  | c :: l, cur, h => by
    unfold fgo at h
    cases hc : blkR c with
    | true =>
      rw [hc, if_pos rfl] at h
      split at h
      · rename_i hcur
        have := fgo_none l [] h
        exact ⟨hcur, fun x hx => by rcases List.mem_cons.1 hx with rfl | hx; exact hc; exact this.2 x hx⟩
      · cases h
    | false =>
      rw [hc, if_neg Bool.noConfusion] at h
      have := (fgo_none l _ h).1
      simp at this
theorem fgo_one : ∀ (l cur f : List UInt8), fgo cur l = [f] → ∃ a u b, l = a ++ (u ++ b) ∧ f = cur ++ u ∧ f ≠ [] ∧ (∀ x ∈ a, blkR x = true) ∧ (cur ≠ [] → a = []) ∧ (∀ x ∈ u, blkR x = false) ∧ ∀ x ∈ b, blkR x = true
  | [], cur, f, h => by
    unfold fgo at h
    split at h
    · cases h
    · rename_i hc
      injection h with h _
      exact ⟨[], [], [], rfl, by simp [h], by rw [← h]; exact hc, by simp, by simp, by simp, by simp⟩
  | c :: l, cur, f, h => by
    unfold fgo at h
    cases hc : blkR c with
    | true =>
      rw [hc, if_pos rfl] at h
      split at h
      · rename_i hcur
        obtain ⟨a, u, b, h1, h2, h3, h4, h5, h6, h7⟩ := fgo_one l [] f h
        refine ⟨c :: a, u, b, by rw [h1]; rfl, by rw [h2, hcur], h3, ?_, fun h => absurd hcur h, h6, h7⟩
        intro x hx
        rcases List.mem_cons.1 hx with rfl | hx
        · exact hc
        · exact h4 x hx
      · rename_i hcur
        injection h with h1 h2
        have hn := (fgo_none l [] h2).2
        refine ⟨[], [], c :: l, rfl, by simp [h1], by rw [← h1]; exact hcur, by simp, by simp, by simp, ?_⟩
        intro x hx
        rcases List.mem_cons.1 hx with rfl | hx
        · exact hc
        · exact hn x hx
    | false =>
      rw [hc, if_neg Bool.noConfusion] at h
      obtain ⟨a, u, b, h1, h2, h3, h4, h5, h6, h7⟩ := fgo_one l _ f h
      have ha : a = [] := h5 (by simp)
      subst ha
      refine ⟨[], c :: u, b, by rw [h1]; rfl, by rw [h2]; simp, h3, by simp, by simp, ?_, h7⟩
      intro x hx
      rcases List.mem_cons.1 hx with rfl | hx
      · exact hc
      · exact h6 x hx
theorem dw_all {p : UInt8 → Bool} : ∀ (a l : List UInt8), (∀ x ∈ a, p x = true) → (a ++ l).dropWhile p = l.dropWhile p
  | [], l, _ => rfl
  | c :: a, l, h => by
    rw [List.cons_append, List.dropWhile_cons, if_pos (h c List.mem_cons_self)]
    exact dw_all a l fun x hx => h x (List.mem_cons_of_mem _ hx)
theorem dw_keep {p : UInt8 → Bool} {u : List UInt8} (hu : u ≠ []) (h : ∀ x ∈ u, p x = false) (l : List UInt8) : (u ++ l).dropWhile p = u ++ l := by
  cases u with
  | nil => exact absurd rfl hu
  | cons c u => rw [List.cons_append, List.dropWhile_cons, if_neg (by rw [h c List.mem_cons_self]; exact Bool.noConfusion)]
theorem clean_one {n f : Nm} (ht : trimR n = n) (h : fieldsR n = [f]) : f = n := by
  obtain ⟨a, u, b, h1, h2, h3, h4, _, h6, h7⟩ := fgo_one n [] f h
  rw [List.nil_append] at h2
  subst h2
  rw [← ht, h1]
  unfold trimR
  rw [dw_all a _ h4, dw_keep h3 h6]
  unfold dropE
  rw [List.reverse_append, dw_all _ _ (fun x hx => h7 x (List.mem_reverse.1 hx)), ← List.append_nil f.reverse, dw_keep (by simpa using h3) (fun x hx => h6 x (List.mem_reverse.1 hx))]
  simp
/-- a clean name -/
def cleanN (n : Nm) : Bool := decide (trimR n = n) && (decide ((fieldsR n).length = 1) && !isVoid n)
theorem allow_clean {n : Nm} (h : isAllow n = true) : trimR n = n ∧ (fieldsR n).length = 1 := by
  have := in_all (k := 15) (f := fun n => decide (trimR n = n) && decide ((fieldsR n).length = 1)) (by decide +kernel) h
  simpa using this
theorem right_mem {s : List Nm} : rightR s = true → ∀ y ∈ s, isAllow y = true ∧ isVoid y = false := by
  refine snoc_ind (P := fun s => rightR s = true → ∀ y ∈ s, isAllow y = true ∧ isVoid y = false) (by simp) ?_ s
  intro s x ih h y hy
  obtain ⟨h1, h2, h3, _⟩ := right_iff.1 h
  rcases List.mem_append.1 hy with hy | hy
  · exact ih h1 y hy
  · obtain rfl := List.mem_singleton.1 hy
    exact ⟨h2, h3⟩
theorem tpm_no {is stops : Nm → Bool} {s : List Nm} (h : ∀ y ∈ s, is y = false) : tpm is stops s = none := by
  cases ht : tpm is stops s with
  | none => rfl
  | some i =>
    obtain ⟨x, t, h1, _, h3, _⟩ := tpm_some ht
    have hx : x ∈ s := by rw [h1]; simp
    rw [h x hx] at h3; cases h3
/-! ## End -/
def cTbl : Nm := [99, 97, 112, 116, 105, 111, 110, 32, 99, 111, 108, 103, 114, 111, 117, 112, 32, 116, 104, 101, 97, 100, 32, 116, 98, 111, 100, 121, 32, 116, 102, 111, 111, 116, 32, 116, 114, 32, 116, 100, 32, 116, 104]
def refEndO (s : List Nm) (name : Nm) : Option Nat :=
  if isR name cHeads then abvR (topN (fun n => isR n cHeads) s) (topN (fun n => isR n cWalls) s)
  else if name = nTable then topN (fun n => isR n nTable) s
  else if isR name cTbl then abvR (topN (fun n => isR n name) s) (topN (fun n => isR n nTable) s)
  else if cleanN name then abvR (topN (fun n => isR n name) s) (topN (fun n => isR n cWalls) s)
  else none
theorem is_tbl {n : Nm} (h : isR n cTbl = true) : n ≠ nTable ∧ isHead n = false ∧ inSet 14 n = true ∧ fieldsR n = [n] := by
  rw [is_mem (l := [nCaption, nColgroup, nThead, nTbody, nTfoot, nTr, nTd, nTh]) (by decide +kernel), decide_eq_true_eq] at h
  simp only [List.mem_cons, List.not_mem_nil, or_false] at h
  rcases h with rfl | rfl | rfl | rfl | rfl | rfl | rfl | rfl <;> decide +kernel
theorem refEnd_eq {s : List Nm} (hr : rightR s = true) (name : Nm) : refEndO s name = tpm (endIs name) (endStops name) s := by
  have hh : (fun n => isR n cHeads) = isHead := is_heads
  unfold refEndO endIs endStops
  have hh' : isR name cHeads = isHead name := congrFun hh name
  rw [hh', hh, is_walls, is_one (e := nTable) (by decide +kernel)]
  cases h1 : isHead name with
  | true =>
    rw [if_pos rfl, if_pos rfl, if_pos rfl]
    exact abv_tpm (fun n hn => (head_facts hn).2.2.2.2.2.2.2) s
  | false =>
    simp only [Bool.false_eq_true, if_false]
    by_cases h2 : name = nTable
    · subst h2
      rw [if_pos rfl, if_pos rfl]; rfl
    rw [if_neg h2, if_neg h2]
    cases h3 : isR name cTbl with
    | true =>
      obtain ⟨_, _, k3, k4⟩ := is_tbl h3
      rw [if_pos rfl, k3, if_pos rfl, is_one k4]
      refine abv_tpm (fun n hn => ?_) s
      obtain rfl := of_decide_eq_true hn
      exact decide_eq_false h2
    | false =>
      rw [if_neg Bool.noConfusion]
      cases h4 : cleanN name with
      | true =>
        unfold cleanN at h4
        simp only [Bool.and_eq_true, decide_eq_true_eq, Bool.not_eq_true'] at h4
        obtain ⟨f, hf⟩ := List.length_eq_one_iff.1 h4.2.1
        have hfn := clean_one h4.1 hf
        rw [hfn] at hf
        have h14 : inSet 14 name = false := by
          cases h : inSet 14 name with
          | false => rfl
          | true =>
            have := in_all (k := 14) (f := fun n => isR n cTbl || isVoid n) (by decide +kernel) h
            rw [h3, h4.2.2] at this; cases this
        rw [if_pos rfl, h14, if_neg Bool.noConfusion, is_one hf]
        refine abv_tpm (fun n hn => ?_) s
        obtain rfl := of_decide_eq_true hn
        cases hw : isWall n with
        | false => rfl
        | true =>
          exfalso
          unfold isWall isCell at hw
          simp only [Bool.or_eq_true, decide_eq_true_eq] at hw
          rcases hw with ((rfl | rfl) | rfl) | rfl
          · revert h3; decide +kernel
          · revert h3; decide +kernel
          · revert h3; decide +kernel
          · exact h2 rfl
      | false =>
        rw [if_neg Bool.noConfusion]
        refine (tpm_no fun y hy => ?_).symm
        cases hy2 : isNm name y with
        | false => rfl
        | true =>
          obtain rfl := of_decide_eq_true hy2
          obtain ⟨k1, k2⟩ := right_mem hr y hy
          obtain ⟨k3, k4⟩ := allow_clean k1
          unfold cleanN at h4
          rw [k2, decide_eq_true k3, decide_eq_true k4] at h4
          cases h4
set_option maxHeartbeats 4000000 in
theorem refEnd_ok (s : List Nm) (q : Option Addr) (c : Nat) (name : Nm) (hr : rightR s = true) (hb : name.length ≤ 1048576) (hl : s.length ≤ 4194304) (w : World) (hi : Im [] w q (strs s)) :
    PureC Tryz.prog 70 #[.slice q s.length c, str name] w (int (endR s name).1) := by
  have hF : Frm w w := Frm.refl w
  have he : (endR s name).1 = match refEndO s name with | none => 0 | some i => s.length - i := by
    rw [refEnd_eq hr]
    unfold endR
    rw [hr, if_neg Bool.noConfusion]
    cases tpm (endIs name) (endStops name) s <;> rfl
  rw [he]
  have hle : ∀ i, refEndO s name = some i → i < s.length := by
    intro i h
    rw [refEnd_eq hr] at h
    exact cut_len h
  refine enter (l := [.slice q s.length c, str name]) Tryz.func70 rfl Tryz.ntmps70 (by kernel_rfl) rfl ?_
  refine sgo ?_
  refine wlpure (refIs_ok name cHeads (by decide) _) fun w1 hf1 => ?_
  replace hF := hF.trans hf1
  refine sgo ?_
  refine wcutj (X := Unit) (fun _ => [(0, .slice q s.length c), (5, placeV (refEndO s name))]) (fun _ wr => Frm w wr) ?_ ?_
  · unfold refEndO
    cases h1 : isR name cHeads with
    | true =>
      rw [if_pos rfl]
      refine sgo ?_
      refine wlpure (refAbove_ok s q c cHeads cWalls (by decide) (by decide) hl _ (hi.frm hF)) fun w2 hf2 => ?_
      replace hF := hF.trans hf2
      refine sgo ?_
      exact ⟨(), ⟨rfl, rfl, trivial⟩, hF⟩
    | false =>
      rw [if_neg Bool.noConfusion]
      refine sgo ?_
      by_cases h2 : name = nTable
      · rw [if_pos h2]
        refine wcyes ?_ (ht := decide_eq_true h2)
        refine sgo ?_
        refine wlpure (refTop_ok s q c nTable (by decide) hl _ (hi.frm hF)) fun w2 hf2 => ?_
        replace hF := hF.trans hf2
        refine sgo ?_
        exact ⟨(), ⟨rfl, rfl, trivial⟩, hF⟩
      rw [if_neg h2]
      refine wcno ?_ (ht := decide_eq_false h2)
      refine sgo ?_
      refine wlpure (refIs_ok name cTbl (by decide) _) fun w3 hf3 => ?_
      replace hF := hF.trans hf3
      cases h3 : isR name cTbl with
      | true =>
        rw [if_pos rfl]
        refine sgo ?_
        refine wlpure (refAbove_ok s q c name nTable hb (by decide) hl _ (hi.frm hF)) fun w2 hf2 => ?_
        replace hF := hF.trans hf2
        refine sgo ?_
        exact ⟨(), ⟨rfl, rfl, trivial⟩, hF⟩
      | false =>
        rw [if_neg Bool.noConfusion]
        refine sgo ?_
        refine wlpure (refTrim_ok name hb _) fun w4 hf4 => ?_
        replace hF := hF.trans hf4
        refine sgo ?_
        unfold cleanN
        by_cases ht : trimR name = name
        · rw [show decide (trimR name = name) = true from decide_eq_true ht]
          refine wlcallgt (vals := [str name]) (refFields_ok name hb _) (fun v w5 hR => ?_) rfl
          obtain ⟨qf, cf, rfl, hS⟩ := hR
          replace hF := hF.trans hS.frm
          refine sgo ?_
          refine wlcallgp (vals := [str name, int (0 : Nat)]) (fun _ => refInV_ok name _) fun w6 hf6 => ?_
          replace hF := hF.trans hf6
          refine sgo ?_
          have e1 : decide (((fieldsR name).length : Int) = 1) = decide ((fieldsR name).length = 1) := decide_eq_decide.2 (by omega)
          cases h4 : (decide ((fieldsR name).length = 1) && !isVoid name) with
          | true =>
            rw [Bool.true_and, if_pos rfl]
            refine wcyes ?_ (ht := by simp only [pkb_and, Bool.true_and, e1]; exact h4)
            refine sgo ?_
            refine wlpure (refAbove_ok s q c name cWalls hb (by decide) hl _ (hi.frm hF)) fun w2 hf2 => ?_
            replace hF := hF.trans hf2
            refine sgo ?_
            exact ⟨(), ⟨rfl, rfl, trivial⟩, hF⟩
          | false =>
            rw [Bool.true_and, if_neg Bool.noConfusion]
            refine wcno ?_ (ht := by simp only [pkb_and, Bool.true_and, e1]; exact h4)
            refine sgo ?_
            exact ⟨(), ⟨rfl, rfl, trivial⟩, hF⟩
        · rw [show decide (trimR name = name) = false from decide_eq_false ht]
          refine wlskipg (.slice none 0 0) ?_ (hgt := by simp)
          refine sgo ?_
          refine wlcallgp (vals := [str name, int (0 : Nat)]) (fun _ => refInV_ok name _) fun w6 hf6 => ?_
          replace hF := hF.trans hf6
          refine sgo ?_
          rw [Bool.false_and, if_neg Bool.noConfusion]
          refine wcno ?_ (ht := by simp [pkb_and])
          refine sgo ?_
          exact ⟨(), ⟨rfl, rfl, trivial⟩, hF⟩
  · clear hF
    rintro _ w2 ρ hF
    generalize refEndO s name = o at *
    cases o with
    | none =>
      unfold placeV
      refine sgo ?_
      (first | refine fp1 (.inl rfl) rfl rfl ?_ | refine fp2 (.inl rfl) rfl rfl rfl ?_ | refine fp3 (.inl rfl) rfl rfl rfl rfl ?_ | refine fp0 (.inr rfl) rfl ?_ | refine fp0 (.inl rfl) rfl ?_ | refine fp1 (.inr rfl) rfl rfl ?_); refine ⟨?_, by (first | exact Frm.refl _ | assumption | exact Go.Sv.Sep.frm (by assumption) | (refine Frm.trans ?_ (by assumption); first | exact Frm.refl _ | assumption))⟩; (try simp only [realB, rv_true, Nat.reduceBEq, cond_true, cond_false, entG, real_lif, updGL])
      rfl
    | some i =>
      have hi2 := hle i rfl
      unfold placeV
      dsimp only
      refine sgo ?_
      refine wcno ?_ (ht := decide_eq_false (by omega))
      refine sgo ?_
      (first | refine fp1 (.inl rfl) rfl rfl ?_ | refine fp2 (.inl rfl) rfl rfl rfl ?_ | refine fp3 (.inl rfl) rfl rfl rfl rfl ?_ | refine fp0 (.inr rfl) rfl ?_ | refine fp0 (.inl rfl) rfl ?_ | refine fp1 (.inr rfl) rfl rfl ?_); refine ⟨?_, by (first | exact Frm.refl _ | assumption | exact Go.Sv.Sep.frm (by assumption) | (refine Frm.trans ?_ (by assumption); first | exact Frm.refl _ | assumption))⟩; (try simp only [realB, rv_true, Nat.reduceBEq, cond_true, cond_false, entG, real_lif, updGL])
      congr 1
      show ((s.length : Int) - (i : Int)) = ((s.length - i : Nat) : Int)
      omega
end Go.Proofs.YtmnnffenijjpcaaGreatDoor

/-
  Package sieveref17: close, open, deep, Blank.
-/
set_option linter.unusedSimpArgs false
set_option linter.unusedVariables false
set_option linter.unnecessarySimpa false
namespace Go.Proofs.YtmnnffenijjpcaaGreatDoor
open Go Go.Sv Go.RowKit

/-- a state in memory -/
structure StM where
  s : BaS
  qo : Option Addr
  co : Nat
  qg : Option Addr
  cg : Nat
  dp : Nat
  ov : Bool
def StM.cells (m : StM) : List Value := [int m.dp, .slice m.qo m.s.op.length m.co, .slice m.qg m.s.gh.length m.cg, .bool m.s.fr, .bool m.ov]
def StM.plots (m : StM) (b : Nat) (cs : List Plot) : List Plot := pOwn b m.cells :: pVw m.qo (strs m.s.op) :: pVw m.qg (strs m.s.gh) :: cs
structure StM.to (m m' : StM) (s : BaS) : Prop where
  s : m'.s = s
  dp : m'.dp = m.dp
  ov : m'.ov = m.ov
  co : m'.s.op.length ≤ m'.co
  cg : m'.s.gh.length ≤ m'.cg
theorem StM.to.trans {m m' m'' : StM} {s s' : BaS} (h : m.to m' s) (h' : m'.to m'' s') : m.to m'' s' := ⟨h'.s, by rw [h'.dp, h.dp], by rw [h'.ov, h.ov], h'.co, h'.cg⟩
set_option maxHeartbeats 4000000 in
theorem sClose_ok (m : StM) (b k : Nat) (hk : k ≤ m.s.op.length) (hco : m.s.op.length ≤ m.co) (hcg : m.s.gh.length ≤ m.cg) (hol : m.s.op.length ≤ 1048576) (w0 w : World) (cs : List Plot) (hS : Sep w0 w (m.plots b cs)) :
    CallsR Tryz.prog 41 #[ptrAt (pb b) 0, int k] w fun v w' => ∃ (m' : StM) (q : Option Addr) (c : Nat), v = .slice q k c ∧ m.to m' (popB m.s k) ∧ Sep w0 w' (m'.plots b (pRow 4 q k c (((offN m.s.op k).map closeM).flatMap EvM.cells) :: cs)) := by
  refine enter (l := [ptrAt (pb b) 0, int k]) Tryz.func41 rfl Tryz.ntmps41 (by kernel_rfl) rfl ?_
  refine sgo ?_
  refine wcloop (X := Nat × StM × Option Addr × Nat) (fun x => [(0, ptrAt (pb b) 0), (1, int k), (5, .slice x.2.2.1 x.1 x.2.2.2), (6, int x.1)])
    (fun x wr => x.1 ≤ k ∧ m.to x.2.1 (popB m.s x.1) ∧ Sep w0 wr (x.2.1.plots b (pRow 4 x.2.2.1 x.1 x.2.2.2 (((offN m.s.op x.1).map closeM).flatMap EvM.cells) :: cs))) (fun x => k - x.1) (0, m, none, 0) ⟨rfl, rfl, rfl, rfl, trivial⟩ ⟨Nat.zero_le _, ⟨rfl, rfl, rfl, hco, hcg⟩, ?_⟩ ?_
  · dsimp only
    rw [offN_zero]
    exact (hS.nilRow 4).sel 4 [1, 2, 3, 0]
  repeat clear hS
  rintro ⟨i, m2, q, c⟩ wr ρ ⟨hik, hto, hS⟩
  dsimp only at *
  obtain ⟨h1, h4, h5, h6, h7⟩ := hto
  obtain ⟨⟨op, gh, fr⟩, qo, co, qg, cg, dp, ov⟩ := m2
  dsimp only at h1 h4 h5 h6 h7
  have hop : op = m.s.op.take (m.s.op.length - i) := by rw [← popB_op, ← h1]
  refine sgo ?_
  (show WC _ _ _ _ _ _ _; first | refine WC_dec rfl (fun hc => ?_) (fun hc => ?_) | refine WC_cond rfl (fun hc => ?_) (fun hc => ?_))
  · have hlt : i < k := by omega
    clear hc
    have hol2 : op.length = m.s.op.length - i := by rw [hop, List.length_take]; omega
    obtain ⟨x, hxx⟩ : ∃ x, op[op.length - 1]? = some x := ⟨_, List.getElem?_eq_getElem (by omega)⟩
    have hx := strs_at hxx
    have hgx : m.s.op.getD (m.s.op.length - i - 1) [] = x := by
      rw [hol2, hop, List.getElem?_take, if_pos (by omega)] at hxx
      rw [List.getD_eq_getElem?_getD, hxx]; rfl
    have hsl := strs_len op
    replace hS : Sep w0 wr (pOwn b [int dp, .slice qo op.length co, .slice qg gh.length cg, .bool fr, .bool ov] :: pVw qo (strs op) :: pVw qg (strs gh) :: pRow 4 q i c (((offN m.s.op i).map closeM).flatMap EvM.cells) :: cs) := hS
    have hqs : ∃ a, qo = some a := (hS.vw 1 rfl).some (by omega)
    have i1 : ((op.length : Int) - 1) = ((op.length - 1 : Nat) : Int) := by omega
    refine sgo ?_
    rw [i1]
    refine sgo ?_
    refine wlbuild (cells := [int 2, str x, str [], .slice none 0 0]) ?_
    refine sgo ?_
    refine sb1a (vs := (closeM x).cells) hS fun b1 w1 hS => ?_
    refine sgo ?_
    refine sapp hS 4 (hS.own 0 rfl).sg (fun q2 c2 w2 hS => ?_) (h1 := ev_one _ _ _)
    rw [evs_flat] at hS
    replace hS : Sep w0 w2 (pOwn b [int dp, .slice qo op.length co, .slice qg gh.length cg, .bool fr, .bool ov] :: pVw qo (strs op) :: pVw qg (strs gh) :: pRow 4 q2 (i + 1) c2 (((offN m.s.op (i + 1)).map closeM).flatMap EvM.cells) :: cs) := by
      rw [offN_succ _ _ (by omega), hgx, List.map_append]
      exact hS.tail
    refine sgo ?_
    refine sst_slice hS 0 fun w3 hS => ?_
    refine sgo ?_
    refine sst_slice hS 0 fun w4 hS => ?_
    refine sgo ?_
    refine sst_bool hS 0 fun w5 hS => ?_
    refine sgo ?_
    refine ⟨(i + 1, ⟨⟨op.take (op.length - 1), [], false⟩, qo, co, none, 0, dp, ov⟩, q2, c2), ⟨rfl, rfl, rfl, rfl, trivial⟩, ⟨hlt, ⟨?_, h4, h5, ?_, Nat.le_refl _⟩, ?_⟩, (by (try dsimp only); omega)⟩
    · show BaS.mk _ _ _ = _
      rw [popB_succ, hol2, hop, List.take_take, Nat.min_eq_left (by omega)]
    · show (op.take (op.length - 1)).length ≤ co
      rw [List.length_take]; omega
    · have e : (op.take (op.length - 1)).length = op.length - 1 := by rw [List.length_take]; omega
      have ec : (strs op).take (op.length - 1) = strs (op.take (op.length - 1)) := by unfold strs; rw [List.map_take]
      have hS2 := (hS.cutVw 1 rfl (op.length - 1)).toNil 2 rfl none
      simp only [StM.plots, StM.cells, e]
      rw [← ec]
      exact hS2
  · obtain rfl : i = k := by omega
    refine sgo ?_
    (first | refine fp1 (.inl rfl) rfl rfl ?_ | refine fp2 (.inl rfl) rfl rfl rfl ?_ | refine fp3 (.inl rfl) rfl rfl rfl rfl ?_ | refine fp0 (.inr rfl) rfl ?_ | refine fp0 (.inl rfl) rfl ?_ | refine fp1 (.inr rfl) rfl rfl ?_)
    exact ⟨_, q, c, rfl, ⟨h1, h4, h5, h6, h7⟩, hS⟩
def soP (b : Nat) (qo : Option Addr) (co : Nat) (op : List Nm) (nm : Nm) : PlanB Unit where
  pl k d := match k with
    | 17 => [pOwn d.b [str nm]]
    | 18 => [pRow 1 (pb d.b) (op.length + 1) d.c (strs op ++ [str nm])]
    | _ => []
  con k := match k with
    | 17 => some 18
    | _ => none
  base k := match k with
    | _ => []
  fact k a := match k with
    | 0 => (a 0).v = ptrAt (pb b) 0
    | 1 => (a 1).v = ptrAt (pb b) 0
    | 2 => (a 2).v = ptrAt (pb b) 0
    | 3 => (a 3).v = ptrAt (pb b) 1
    | 4 => (a 4).v = .slice qo op.length co
    | 5 => (a 5).v = ptrAt (pb b) 0
    | 6 => (a 6).v = ptrAt (pb b) 0
    | 7 => (a 7).v = ptrAt (pb b) 1
    | 8 => (a 8).v = .slice qo op.length co
    | 9 => (a 9).v = int op.length
    | 10 => (a 10).v = ptrAt (pb b) 0
    | 11 => (a 11).v = ptrAt (pb b) 0
    | 12 => (a 12).v = ptrAt (pb b) 1
    | 13 => (a 13).v = .slice qo op.length co
    | 14 => (a 14).v = int op.length
    | 15 => (a 15).v = .slice qo op.length op.length
    | 16 => (a 16).v = str nm
    | 17 => (a 17).v = .slice (pb (a 17).b) 1 1
    | 18 => (a 18).v = .slice (pb (a 18).b) (op.length + 1) (a 18).c
    | 19 => True
    | 20 => True
    | 21 => True
    | _ => True
set_option maxHeartbeats 4000000 in
theorem sOpen_ok (m : StM) (b : Nat) (nm : Nm) (n : Nat) (p : Option Addr) (c : Nat) (hco : m.s.op.length ≤ m.co) (hcg : m.s.gh.length ≤ m.cg) (hol : m.s.op.length ≤ 1048576) (w0 w : World) (cs : List Plot) (hS : Sep w0 w (m.plots b cs)) :
    CallsR Tryz.prog 67 #[ptrAt (pb b) 0, str nm, .slice p n c] w fun v w' => ∃ m' : StM, v = .agg ⟨[int 1, str nm, str [], .slice p n c]⟩ ∧ m.to m' (pushB m.s nm) ∧ Sep w0 w' (m'.plots b cs) := by
  obtain ⟨⟨op, gh, fr⟩, qo, co, qg, cg, dp, ov⟩ := m
  dsimp only at hco hcg hol
  have hsl := strs_len op
  replace hS : Sep w0 w (pOwn b [int dp, .slice qo op.length co, .slice qg gh.length cg, .bool fr, .bool ov] :: pVw qo (strs op) :: pVw qg (strs gh) :: cs) := hS
  refine enter (l := [ptrAt (pb b) 0, str nm, .slice p n c]) Tryz.func67 rfl Tryz.ntmps67 (by kernel_rfl) rfl ?_
  refine sgo ?_
  refine salloc hS fun b6 w1 hS => ?_
  replace hS : Sep w0 w1 ([] ++ (pOwn b6 [int 0, str [], str [], .slice none 0 0] :: pOwn b [int dp, .slice qo op.length co, .slice qg gh.length cg, .bool fr, .bool ov] :: pVw qo (strs op) :: pVw qg (strs gh) :: cs)) := hS
  refine sgo ?_
  refine wcplant (b := []) 19 (soP b qo co op nm) ⟨.nilIface, none, 0, 0, ()⟩ hS rfl (fun j oj a a' hj he hd h => ?_) ?_ ?_
  · have hjl : j < 22 := (List.getElem?_eq_some_iff.1 hj).1
    match j, hjl with
    | 0, _ | 1, _ | 2, _ | 3, _ | 4, _ | 5, _ | 6, _ | 7, _ | 8, _ | 9, _ | 10, _ | 11, _ | 12, _ | 13, _ | 14, _ | 15, _ | 16, _ | 17, _ | 18, _ | 19, _ | 20, _ | 21, _ => first | (simp only [soP] at h ⊢; rw [← he]; exact h) | exact h
  · refine ⟨?_, ?_, ?_, ?_, ?_, ?_, ?_, ?_, ?_, ?_, ?_, ?_, ?_, ?_, ?_, ?_, ?_, ?_, ?_, trivial⟩
    · intro a σ' w' rest hσ hdep hS'   -- 0: move; pieces:  ..
      have e0 : σ' 0 = ptrAt (pb b) 0 := (hσ 0 (notDstB rfl)).trans rfl
      exact rule_e [(0, _)] ⟨e0, trivial⟩ ⟨⟨ptrAt (pb b) 0, none, 0, 0, ()⟩, rfl, rfl, hS'⟩
    · intro a σ' w' rest hσ hdep hS'   -- 1: move; pieces:  ..
      have e0 : σ' 0 = ptrAt (pb b) 0 := (hσ 0 (notDstB rfl)).trans rfl
      exact rule_e [(0, _)] ⟨e0, trivial⟩ ⟨⟨ptrAt (pb b) 0, none, 0, 0, ()⟩, rfl, rfl, hS'⟩
    · intro a σ' w' rest hσ hdep hS'   -- 2: nilCheck; pieces:  ..
      have f1 := (hdep 1 _ rfl rfl).2
      have e8 := ((hdep 1 _ rfl rfl).1 8 rfl).trans f1
      exact rule_y (y_nilcheckp e8 ⟨_, rfl⟩) ⟨⟨ptrAt (pb b) 0, none, 0, 0, ()⟩, rfl, rfl, hS'⟩
    · intro a σ' w' rest hσ hdep hS'   -- 3: fieldAddr; pieces:  ..
      have f2 := (hdep 2 _ rfl rfl).2
      have e9 := ((hdep 2 _ rfl rfl).1 9 rfl).trans f2
      exact rule_y (y_field e9 ⟨_, rfl⟩ (by decide)) ⟨⟨ptrAt (pb b) 1, none, 0, 0, ()⟩, rfl, rfl, hS'⟩
    · intro a σ' w' rest hσ hdep hS'   -- 4: load; pieces:  ..
      have f3 := (hdep 3 _ rfl rfl).2
      have e10 := ((hdep 3 _ rfl rfl).1 10 rfl).trans f3
      exact rule_y (y_load e10 (Sep.sgv hS' 1 rfl) rfl) ⟨⟨.slice qo op.length co, none, 0, 0, ()⟩, rfl, rfl, hS'⟩
    · intro a σ' w' rest hσ hdep hS'   -- 5: move; pieces:  ..
      have e0 : σ' 0 = ptrAt (pb b) 0 := (hσ 0 (notDstB rfl)).trans rfl
      exact rule_e [(0, _)] ⟨e0, trivial⟩ ⟨⟨ptrAt (pb b) 0, none, 0, 0, ()⟩, rfl, rfl, hS'⟩
    · intro a σ' w' rest hσ hdep hS'   -- 6: nilCheck; pieces:  ..
      have f5 := (hdep 5 _ rfl rfl).2
      have e12 := ((hdep 5 _ rfl rfl).1 12 rfl).trans f5
      exact rule_y (y_nilcheckp e12 ⟨_, rfl⟩) ⟨⟨ptrAt (pb b) 0, none, 0, 0, ()⟩, rfl, rfl, hS'⟩
    · intro a σ' w' rest hσ hdep hS'   -- 7: fieldAddr; pieces:  ..
      have f6 := (hdep 6 _ rfl rfl).2
      have e13 := ((hdep 6 _ rfl rfl).1 13 rfl).trans f6
      exact rule_y (y_field e13 ⟨_, rfl⟩ (by decide)) ⟨⟨ptrAt (pb b) 1, none, 0, 0, ()⟩, rfl, rfl, hS'⟩
    · intro a σ' w' rest hσ hdep hS'   -- 8: load; pieces:  ..
      have f7 := (hdep 7 _ rfl rfl).2
      have e14 := ((hdep 7 _ rfl rfl).1 14 rfl).trans f7
      exact rule_y (y_load e14 (Sep.sgv hS' 1 rfl) rfl) ⟨⟨.slice qo op.length co, none, 0, 0, ()⟩, rfl, rfl, hS'⟩
    · intro a σ' w' rest hσ hdep hS'   -- 9: call; pieces:  ..
      have f8 := (hdep 8 _ rfl rfl).2
      have e15 := ((hdep 8 _ rfl rfl).1 15 rfl).trans f8
      exact rule_y (y_len e15 rfl) ⟨⟨int op.length, none, 0, 0, ()⟩, rfl, rfl, hS'⟩
    · intro a σ' w' rest hσ hdep hS'   -- 10: move; pieces:  ..
      have e0 : σ' 0 = ptrAt (pb b) 0 := (hσ 0 (notDstB rfl)).trans rfl
      exact rule_e [(0, _)] ⟨e0, trivial⟩ ⟨⟨ptrAt (pb b) 0, none, 0, 0, ()⟩, rfl, rfl, hS'⟩
    · intro a σ' w' rest hσ hdep hS'   -- 11: nilCheck; pieces:  ..
      have f10 := (hdep 10 _ rfl rfl).2
      have e17 := ((hdep 10 _ rfl rfl).1 17 rfl).trans f10
      exact rule_y (y_nilcheckp e17 ⟨_, rfl⟩) ⟨⟨ptrAt (pb b) 0, none, 0, 0, ()⟩, rfl, rfl, hS'⟩
    · intro a σ' w' rest hσ hdep hS'   -- 12: fieldAddr; pieces:  ..
      have f11 := (hdep 11 _ rfl rfl).2
      have e18 := ((hdep 11 _ rfl rfl).1 18 rfl).trans f11
      exact rule_y (y_field e18 ⟨_, rfl⟩ (by decide)) ⟨⟨ptrAt (pb b) 1, none, 0, 0, ()⟩, rfl, rfl, hS'⟩
    · intro a σ' w' rest hσ hdep hS'   -- 13: load; pieces:  ..
      have f12 := (hdep 12 _ rfl rfl).2
      have e19 := ((hdep 12 _ rfl rfl).1 19 rfl).trans f12
      exact rule_y (y_load e19 (Sep.sgv hS' 1 rfl) rfl) ⟨⟨.slice qo op.length co, none, 0, 0, ()⟩, rfl, rfl, hS'⟩
    · intro a σ' w' rest hσ hdep hS'   -- 14: call; pieces:  ..
      have f13 := (hdep 13 _ rfl rfl).2
      have e20 := ((hdep 13 _ rfl rfl).1 20 rfl).trans f13
      exact rule_y (y_len e20 rfl) ⟨⟨int op.length, none, 0, 0, ()⟩, rfl, rfl, hS'⟩
    · intro a σ' w' rest hσ hdep hS'   -- 15: slice; pieces:  ..
      have f4 := (hdep 4 _ rfl rfl).2
      have e11 := ((hdep 4 _ rfl rfl).1 11 rfl).trans f4
      have f9 := (hdep 9 _ rfl rfl).2
      have e16 := ((hdep 9 _ rfl rfl).1 16 rfl).trans f9
      have f14 := (hdep 14 _ rfl rfl).2
      have e21 := ((hdep 14 _ rfl rfl).1 21 rfl).trans f14
      exact rule_y (y_rslice3 e11 e16 e21 ⟨Nat.le_refl _, hco⟩) ⟨⟨.slice qo op.length op.length, none, 0, 0, ()⟩, rfl, rfl, hS'⟩
    · intro a σ' w' rest hσ hdep hS'   -- 16: move; pieces:  ..
      have e1 : σ' 1 = str nm := (hσ 1 (notDstB rfl)).trans rfl
      exact rule_e [(1, _)] ⟨e1, trivial⟩ ⟨⟨str nm, none, 0, 0, ()⟩, rfl, rfl, hS'⟩
    · intro a σ' w' rest hσ hdep hS'   -- 17: buildSlice; pieces:  ..
      have f16 := (hdep 16 _ rfl rfl).2
      have e23 := ((hdep 16 _ rfl rfl).1 23 rfl).trans f16
      obtain ⟨b, w2, hy, hS2⟩ := y_bs1s (P := Tryz.prog) (t := 41) (d := some 24) (x := .tmp 23) hS' e23 rfl
      exact rule_y hy ⟨⟨.slice (pb b) 1 1, none, 0, b, ()⟩, rfl, rfl, hS2⟩
    · intro a σ' w' rest hσ hdep hS'   -- 18: call; pieces: takes 17 ..
      have f15 := (hdep 15 _ rfl rfl).2
      have e22 := ((hdep 15 _ rfl rfl).1 22 rfl).trans f15
      have f17 := (hdep 17 _ rfl rfl).2
      have e24 := ((hdep 17 _ rfl rfl).1 24 rfl).trans f17
      obtain ⟨b, c2, w2, hy, hS2⟩ := y_appf (P := Tryz.prog) (t := 41) (t' := 41) (ty := 41) (d := some 25) (x := .tmp 22) (y := .tmp 24) (n := op.length) (m := 1) (size := 1) hS' (hS'.sgv 3 rfl) (hS'.own 0 rfl).sg (by rw [strs_len, Nat.mul_one]) e22 e24 rfl (by simp [Go.Value.oneCell']) rfl (by decide) (by omega) (by omega)
      exact rule_y hy ⟨⟨.slice (pb b) (op.length + 1) c2, none, c2, b, ()⟩, rfl, rfl, hS2.drop 1 rfl⟩
  · intro a σ' w' hσ hA' hS'
    have h0 := hA' 0 _ rfl
    have h18 := hA' 18 _ rfl
    rw [frameOf (σ := σ') [(0, ptrAt (pb b) 0), (1, str nm), (2, .slice p n c), (6, ptrAt (pb b6) 0), (7, ptrAt (pb b) 0), (25, .slice (pb (a 18).b) (op.length + 1) (a 18).c)]
      ⟨(hσ 0 (notDst rfl)).trans rfl, (hσ 1 (notDst rfl)).trans rfl, (hσ 2 (notDst rfl)).trans rfl, (hσ 6 (notDst rfl)).trans rfl, (h0.1 7 rfl).trans h0.2, (h18.1 25 rfl).trans h18.2, trivial⟩]
    repeat clear hS
    have hS : Sep w0 w' (pRow 1 (pb (a 18).b) (op.length + 1) (a 18).c (strs op ++ [str nm]) :: pOwn b6 [int 0, str [], str [], .slice none 0 0] :: pOwn b [int dp, .slice qo op.length co, .slice qg gh.length cg, .bool fr, .bool ov] :: pVw qo (strs op) :: pVw qg (strs gh) :: cs) := hS'
    have hrow := (hS.row 0 rfl).le_cap
    rw [strs_snoc, show op.length + 1 = (op ++ [nm]).length by simp] at hS
    rw [show op.length + 1 = (op ++ [nm]).length by simp] at hrow
    rw [show op.length + 1 = (op ++ [nm]).length by simp]
    generalize pb (a 18).b = q5 at *
    generalize (a 18).c = c5 at *
    clear hA' hσ hS' h0 h18
    refine sgo ?_
    refine sst_slice hS 2 fun w6 hS => ?_
    refine sgo ?_
    refine sst_bool hS 2 fun w7 hS => ?_
    refine sgo ?_
    refine wlbuild (cells := [int 1, str nm, str [], .slice p n c]) ?_
    refine ssta (vs := [int 1, str nm, str [], .slice p n c]) hS 1 fun w8 hS => ?_
    refine sgo ?_
    refine fpc (.inl rfl) rfl rfl rfl (hS.own 1 rfl) ?_
    exact ⟨⟨⟨op ++ [nm], gh, isFr nm⟩, q5, c5, qg, cg, dp, ov⟩, rfl, ⟨rfl, rfl, rfl, hrow.1, hcg⟩, (hS.rowVw 0 rfl).sel 5 [2, 0, 4]⟩
set_option maxHeartbeats 2000000 in
theorem sDeep_ok (m : StM) (b : Nat) (ends : Nat) (q : Option Addr) (n c : Nat) (drop : Bool) (k : Nat) (hk : ends ≤ m.s.op.length) (hol : m.s.op.length ≤ 1048576) (hn : n ≤ 1048576) (hk2 : k ≤ 1) (hd : m.dp ≤ 1048576) (w0 w : World) (cs : List Plot) (hS : Sep w0 w (m.plots b cs)) :
    PureC Tryz.prog 65 #[ptrAt (pb b) 0, .agg ⟨[int ends, .slice q n c, .bool drop]⟩, int k] w (.bool (decide (m.dp < m.s.op.length - ends + n + k))) := by
  have hF := Frm.refl w
  obtain ⟨⟨op, gh, fr⟩, qo, co, qg, cg, dp, ov⟩ := m
  dsimp only at hk hol hd
  have ho : Own w b [int dp, .slice qo op.length co, .slice qg gh.length cg, .bool fr, .bool ov] := hS.own 0 rfl
  repeat clear hS
  have hS := Sep.start w
  refine enter (l := [ptrAt (pb b) 0, .agg ⟨[int ends, .slice q n c, .bool drop]⟩, int k]) Tryz.func65 rfl Tryz.ntmps65 (by kernel_rfl) rfl ?_
  refine WC_seq ?_
  refine WC_region ?_
  refine sbox (v := .agg ⟨[int ends, .slice q n c, .bool drop]⟩) hS fun b4 w1 hS => ?_
  replace hS : Sep w w1 [pOwn b4 [int ends, .slice q n c, .bool drop]] := hS
  have ho1 := ho.frm hS.frm
  refine sgo ?_
  (first | refine WC_seq ?_ | skip); refine wcdraw ?_
  refine qgo ?_
  refine QL_nil ?_; intro wd hwd
  replace hS := hS.grow hwd
  refine sgo ?_
  (first | refine fp1 (.inl rfl) rfl rfl ?_ | refine fp2 (.inl rfl) rfl rfl rfl ?_ | refine fp3 (.inl rfl) rfl rfl rfl rfl ?_ | refine fp0 (.inr rfl) rfl ?_ | refine fp0 (.inl rfl) rfl ?_ | refine fp1 (.inr rfl) rfl rfl ?_); refine ⟨?_, by (first | exact Frm.refl _ | assumption | exact Go.Sv.Sep.frm (by assumption) | (refine Frm.trans ?_ (by assumption); first | exact Frm.refl _ | assumption))⟩; (try simp only [realB, rv_true, Nat.reduceBEq, cond_true, cond_false, entG, real_lif, updGL])
  exact congrArg Value.bool (decide_eq_decide.2 (by omega))
set_option maxHeartbeats 2000000 in
theorem sBlank_ok (x : Nm) (hb : x.length ≤ 1048576) (w : World) : PureC Tryz.prog 69 #[str x] w (.bool (isBlank x)) := by
  have hF := Frm.refl w
  refine enter (l := [str x]) Tryz.func69 rfl Tryz.ntmps69 (by kernel_rfl) rfl ?_
  refine sgo ?_
  refine wcloop (X := Nat) (fun i => [(0, str x), (3, int i)]) (fun i wr => i ≤ x.length ∧ isBlank x = isBlank (x.drop i) ∧ Frm w wr) (fun i => x.length - i) 0 ⟨rfl, rfl, trivial⟩ ⟨Nat.zero_le _, rfl, hF⟩ ?_
  clear hF
  rintro i wr ρ ⟨hil, hbl, hF⟩
  refine sgo ?_
  (show WC _ _ _ _ _ _ _; first | refine WC_dec rfl (fun hc => ?_) (fun hc => ?_) | refine WC_cond rfl (fun hc => ?_) (fun hc => ?_))
  · have hlt : i < x.length := by omega
    clear hc
    have h0 : x[i]?.getD 0 = x[i] := by rw [List.getElem?_eq_getElem hlt]; rfl
    rw [List.drop_eq_getElem_cons hlt] at hbl
    unfold isBlank at hbl
    rw [List.all_cons] at hbl
    refine sgo ?_
    rw [h0]
    have hb9 : ∀ n : Nat, n < 256 → (((x[i].toNat : Nat) : Int) = (n : Nat) ↔ x[i] = UInt8.ofNat n) := fun n hn => by
      constructor
      · intro h
        apply UInt8.toNat.inj
        rw [UInt8.toNat_ofNat_of_lt' hn]; omega
      · intro h; rw [h, UInt8.toNat_ofNat_of_lt' hn]
    generalize x[i] = y at *
    have k1 := hb9 9 (by decide)
    have k2 := hb9 10 (by decide)
    have k3 := hb9 12 (by decide)
    have k4 := hb9 32 (by decide)
    clear hb9
    have hbk : blkR y = decide (((y.toNat : Nat) : Int) = 9 ∨ ((y.toNat : Nat) : Int) = 10 ∨ ((y.toNat : Nat) : Int) = 12 ∨ ((y.toNat : Nat) : Int) = 32) := by
      unfold blkR
      exact decide_eq_decide.2 (by rw [show (9 : UInt8) = UInt8.ofNat 9 from rfl, show (10 : UInt8) = UInt8.ofNat 10 from rfl, show (12 : UInt8) = UInt8.ofNat 12 from rfl, show (32 : UInt8) = UInt8.ofNat 32 from rfl, ← k1, ← k2, ← k3, ← k4]; rfl)
    clear k1 k2 k3 k4
    refine sgo ?_
    refine WC_cond rfl (fun hc => ?_) (fun hc => ?_)
    · have hf : blkR y = false := by
        rw [hbk]
        simp only [pkb_and, Bool.and_eq_true, decide_eq_true_eq] at hc
        exact decide_eq_false (by omega)
      rw [hf, Bool.false_and] at hbl
      refine sgo ?_
      (first | refine fp1 (.inl rfl) rfl rfl ?_ | refine fp2 (.inl rfl) rfl rfl rfl ?_ | refine fp3 (.inl rfl) rfl rfl rfl rfl ?_ | refine fp0 (.inr rfl) rfl ?_ | refine fp0 (.inl rfl) rfl ?_ | refine fp1 (.inr rfl) rfl rfl ?_); refine ⟨?_, by (first | exact Frm.refl _ | assumption | exact Go.Sv.Sep.frm (by assumption) | (refine Frm.trans ?_ (by assumption); first | exact Frm.refl _ | assumption))⟩; (try simp only [realB, rv_true, Nat.reduceBEq, cond_true, cond_false, entG, real_lif, updGL])
      exact congrArg Value.bool hbl.symm
    · have hf : blkR y = true := by
        rw [hbk]
        simp only [pkb_and, Bool.and_eq_false_iff, decide_eq_false_iff_not] at hc
        exact decide_eq_true (by omega)
      rw [hf, Bool.true_and] at hbl
      refine sgo ?_
      exact ⟨i + 1, ⟨rfl, rfl, trivial⟩, ⟨hlt, hbl, hF⟩, (by (try dsimp only); omega)⟩
  · obtain rfl : i = x.length := by omega
    refine sgo ?_
    (first | refine fp1 (.inl rfl) rfl rfl ?_ | refine fp2 (.inl rfl) rfl rfl rfl ?_ | refine fp3 (.inl rfl) rfl rfl rfl rfl ?_ | refine fp0 (.inr rfl) rfl ?_ | refine fp0 (.inl rfl) rfl ?_ | refine fp1 (.inr rfl) rfl rfl ?_); refine ⟨?_, by (first | exact Frm.refl _ | assumption | exact Go.Sv.Sep.frm (by assumption) | (refine Frm.trans ?_ (by assumption); first | exact Frm.refl _ | assumption))⟩; (try simp only [realB, rv_true, Nat.reduceBEq, cond_true, cond_false, entG, real_lif, updGL])
    rw [hbl, List.drop_length]; rfl
end Go.Proofs.YtmnnffenijjpcaaGreatDoor

/-
  Package sieveref17: ready.
-/
set_option linter.unusedSimpArgs false
set_option linter.unusedVariables false
set_option linter.unnecessarySimpa false
namespace Go.Proofs.YtmnnffenijjpcaaGreatDoor
open Go Go.Sv Go.RowKit

def mk0 (e : Ev) : EvM := ⟨e, none, 0⟩
theorem mk0_evs (l : List Ev) : evs (l.map mk0) = l := by unfold evs; rw [List.map_map]; exact List.map_id _
theorem mk0_close (l : List Nm) : l.map closeM = (l.map closeE).map mk0 := by rw [List.map_map]; rfl
theorem fi_at {put : List Nm} {i : Nat} {x : Nm} (h : put[i]? = some x) : put.take (i + 1) = put.take i ++ [x] := by rw [List.take_add_one, h]; rfl
set_option maxHeartbeats 4000000 in
theorem sReady_ok (m : StM) (b : Nat) (t : Tok) (p : PlanR) (q : Option Addr) (c : Nat) (hk : p.ends ≤ m.s.op.length) (hco : m.s.op.length ≤ m.co) (hcg : m.s.gh.length ≤ m.cg) (hb1 : m.s.op.length + p.put.length ≤ 1048576)
    (w0 w : World) (cs : List Plot) (hS : Sep w0 w (m.plots b (pVw q (strs p.put) :: cs))) :
    CallsR Tryz.prog 66 #[ptrAt (pb b) 0, .agg ⟨[int p.ends, .slice q p.put.length c, .bool p.drop]⟩, .agg ⟨[int t.a, int t.b, int t.d]⟩] w fun v w' => ∃ (m' : StM) (ql : Option Addr) (cl : Nat) (qf : Option Addr) (cf : Nat), v = .tuple #[.slice ql (followE m.s p).length cl, .slice qf (followF t p).length cf] ∧ m.to m' (followB m.s p) ∧
      Sep w0 w' (m'.plots b (pRow 4 ql (followE m.s p).length cl (((followE m.s p).map mk0).flatMap EvM.cells) :: pRow 5 qf (followF t p).length cf ((followF t p).flatMap Fi.cells) :: pVw q (strs p.put) :: cs)) := by
  obtain ⟨ends, put, drop, err⟩ := p
  obtain ⟨tk, tn, tx, te, tf, ta, tb, td⟩ := t
  dsimp only at hk hb1 hS ⊢
  have hsl := strs_len put
  refine enter (l := [ptrAt (pb b) 0, .agg ⟨[int ends, .slice q put.length c, .bool drop]⟩, .agg ⟨[int ta, int tb, int td]⟩]) Tryz.func66 rfl Tryz.ntmps66 (by kernel_rfl) rfl ?_
  refine WC_seq ?_
  refine WC_region ?_
  refine sbox (v := .agg ⟨[int ends, .slice q put.length c, .bool drop]⟩) hS fun b4 w1 hS => ?_
  refine sbox (v := .agg ⟨[int ta, int tb, int td]⟩) hS fun b5 w2 hS => ?_
  replace hS : Sep w0 w2 (m.plots b (pOwn b4 [int ends, .slice q put.length c, .bool drop] :: pOwn b5 [int ta, int tb, int td] :: pVw q (strs put) :: cs)) := hS.sel 6 [2, 3, 4, 1, 0, 5]
  have ho4 := hS.own 3 rfl
  refine sgo ?_
  refine wlcall (sClose_ok m b ends hk hco hcg (by omega) w0 _ _ hS) ?_
  clear ho4
  repeat clear hS
  rintro _ w3 ⟨m1, ql, cl, rfl, hto, hS⟩
  have ho4 := hS.own 4 rfl
  refine sgo ?_
  refine wcloop (X := Nat × StM × Option Addr × Nat × Option Addr × Nat) (fun x => [(0, ptrAt (pb b) 0), (5, ptrAt (pb b5) 0), (8, .slice x.2.2.1 (ends + x.1) x.2.2.2.1), (9, .slice x.2.2.2.2.1 x.1 x.2.2.2.2.2), (17, .slice q put.length c), (18, int put.length), (19, int x.1)])
    (fun x wr => x.1 ≤ put.length ∧ m.to x.2.1 (pushesB (popB m.s ends) (put.take x.1)) ∧ Sep w0 wr (x.2.1.plots b (pRow 4 x.2.2.1 (ends + x.1) x.2.2.2.1 ((((offN m.s.op ends).map closeE ++ (put.take x.1).map fun n => opE n []).map mk0).flatMap EvM.cells) :: pRow 5 x.2.2.2.2.1 x.1 x.2.2.2.2.2 (((put.take x.1).map (fiT ⟨tk, tn, tx, te, tf, ta, tb, td⟩ 9)).flatMap Fi.cells) :: pOwn b5 [int ta, int tb, int td] :: pVw q (strs put) :: cs)))
    (fun x => put.length - x.1) (0, m1, ql, cl, none, 0) ⟨rfl, rfl, rfl, rfl, rfl, rfl, rfl, trivial⟩ ⟨Nat.zero_le _, by simpa [pushesB] using hto, ?_⟩ ?_
  · dsimp only
    rw [List.take_zero, List.map_nil, List.append_nil, List.map_nil, List.flatMap_nil, Nat.add_zero, ← mk0_close]
    exact (hS.nilRow 5).sel 8 [1, 2, 3, 4, 0, 6, 7]
  repeat clear hS
  clear hto ho4 m1 ql cl
  rintro ⟨i, m2, ql, cl, qf, cf⟩ wr ρ ⟨hil, hto, hS⟩
  dsimp only at *
  have hq := hS.vw 6 rfl
  refine sgo ?_
  (show WC _ _ _ _ _ _ _; first | refine WC_dec rfl (fun hc => ?_) (fun hc => ?_) | refine WC_cond rfl (fun hc => ?_) (fun hc => ?_))
  · have hlt : i < put.length := by omega
    clear hc
    have hx0 : put[i]? = some put[i] := List.getElem?_eq_getElem hlt
    have htk := fi_at hx0
    generalize put[i] = x at *
    have hx := strs_at hx0
    have hso := hto.s
    have hpl : m2.s.op.length ≤ m.s.op.length + put.length := by
      rw [hso, (pushes_op _ _).1, List.length_append, popB_op, List.length_take, List.length_take]; omega
    have hqs : ∃ a, q = some a := hq.some (by omega)
    refine sgo ?_
    refine wlcall (sOpen_ok m2 b x 0 none 0 hto.co hto.cg (by omega) w0 _ _ hS) ?_
    clear hq
    repeat clear hS
    rintro _ w4 ⟨m3, rfl, hto3, hS⟩
    replace hS : Sep w0 w4 (pRow 4 ql (ends + i) cl ((((offN m.s.op ends).map closeE ++ (put.take i).map fun n => opE n []).map mk0).flatMap EvM.cells) :: pRow 5 qf i cf (((put.take i).map (fiT ⟨tk, tn, tx, te, tf, ta, tb, td⟩ 9)).flatMap Fi.cells) :: pOwn b5 [int ta, int tb, int td] :: pOwn b m3.cells :: pVw m3.qo (strs m3.s.op) :: pVw m3.qg (strs m3.s.gh) :: pVw q (strs put) :: cs) := hS.sel 6 [3, 4, 5, 0, 1, 2]
    refine sgo ?_
    refine sb1a (vs := (mk0 (opE x [])).cells) hS fun b6 w5 hS => ?_
    refine sgo ?_
    refine sapp hS 1 (hS.own 0 rfl).sg (fun q2 c2 w6 hS => ?_) (h1 := ev_one _ _ _)
    replace hS := hS.tail
    rw [evs_flat] at hS
    refine sgo ?_
    refine wlbuild (cells := [int ta, int tb, int td, int 9, str x]) ?_
    refine sgo ?_
    refine sb1a (vs := (Fi.mk ta tb td 9 x).cells) hS fun b7 w7 hS => ?_
    refine sgo ?_
    refine sapp hS 2 (hS.own 0 rfl).sg (fun q3 c3 w8 hS => ?_) (h1 := fi_one _)
    replace hS := hS.tail
    rw [fis_flat] at hS
    refine sgo ?_
    refine ⟨(i + 1, m3, q2, c2, q3, c3), ⟨rfl, rfl, rfl, rfl, rfl, rfl, rfl, trivial⟩, ⟨hlt, ?_, ?_⟩, (by (try dsimp only); omega)⟩
    · have h := hto.trans hto3
      rw [hso] at h
      dsimp only
      rw [htk, pushes_snoc]
      exact h
    · have h := hS.sel 6 [3, 4, 5, 0, 1, 2]
      dsimp only
      rw [htk, List.map_append (l₁ := put.take i), List.map_append (l₁ := put.take i), ← List.append_assoc, List.map_append (f := mk0)]
      exact h
  · obtain rfl : i = put.length := by omega
    refine sgo ?_
    (first | refine fp1 (.inl rfl) rfl rfl ?_ | refine fp2 (.inl rfl) rfl rfl rfl ?_ | refine fp3 (.inl rfl) rfl rfl rfl rfl ?_ | refine fp0 (.inr rfl) rfl ?_ | refine fp0 (.inl rfl) rfl ?_ | refine fp1 (.inr rfl) rfl rfl ?_)
    have e1 : (followE m.s ⟨ends, put, drop, err⟩).length = ends + put.length := (follow_len m.s ⟨ends, put, drop, err⟩ hk).1
    have e2 : (followF ⟨tk, tn, tx, te, tf, ta, tb, td⟩ ⟨ends, put, drop, err⟩).length = put.length := by unfold followF; rw [List.length_map]
    rw [List.take_length] at hto hS
    rw [e1, e2]
    exact ⟨m2, ql, cl, qf, cf, rfl, hto, hS.sel 7 [0, 1, 2, 3, 4, 6]⟩
end Go.Proofs.YtmnnffenijjpcaaGreatDoor

/-
  Package sieveref17: start.
-/
set_option linter.unusedSimpArgs false
set_option linter.unusedVariables false
set_option linter.unnecessarySimpa false
namespace Go.Proofs.YtmnnffenijjpcaaGreatDoor
open Go Go.Sv Go.RowKit

/-- what Take gives -/
def SaR (m : StM) (b : Nat) (o : OutB) (w0 : World) (cs : List Plot) (v : Value) (w' : World) : Prop :=
  ∃ (m' : StM) (es : List EvM) (q : Option Addr) (c : Nat) (qf : Option Addr) (cf : Nat), v = .tuple #[.slice q es.length c, .slice qf o.fs.length cf] ∧ evs es = o.es ∧ (∀ e ∈ es, Im [] w0 e.p (e.e.attrs.flatMap At.cells)) ∧ m.to m' o.s ∧
    Sep w0 w' (m'.plots b (pRow 4 q es.length c (es.flatMap EvM.cells) :: pRow 5 qf o.fs.length cf (o.fs.flatMap Fi.cells) :: cs))
theorem mk0_im (w : World) (l : List Ev) (h : ∀ e ∈ l, e.attrs = []) : ∀ e ∈ l.map mk0, Im [] w e.p (e.e.attrs.flatMap At.cells) := by
  intro e he
  obtain ⟨x, h1, rfl⟩ := List.mem_map.1 he
  show Im [] w none (x.attrs.flatMap At.cells)
  rw [h x h1]; exact Im.nil _ _ _
theorem follow_attrs (s : BaS) (p : PlanR) : ∀ e ∈ followE s p, e.attrs = [] := by
  intro e he
  unfold followE at he
  rcases List.mem_append.1 he with h | h
  · obtain ⟨n, _, rfl⟩ := List.mem_map.1 h; rfl
  · obtain ⟨n, _, rfl⟩ := List.mem_map.1 h; rfl
def s2P (b3 : Nat) (ta tb td : Int) (nm : Nm) : PlanB Unit where
  pl k d := match k with
    | 5 => [pOwn d.b [int ta, int tb, int td, int 0, str nm]]
    | _ => []
  con k := match k with
    | _ => none
  base k := match k with
    | _ => []
  fact k a := match k with
    | 0 => (a 0).v = ptrAt (pb b3) 5
    | 1 => (a 1).v = .agg ⟨[int ta, int tb, int td]⟩
    | 2 => (a 2).v = ptrAt (pb b3) 1
    | 3 => (a 3).v = str nm
    | 4 => (a 4).v = .agg ⟨[int ta, int tb, int td, int 0, str nm]⟩
    | 5 => (a 5).v = .slice (pb (a 5).b) 1 1
    | 6 => (a 6).v = .slice none 0 0
    | 7 => (a 7).v = .slice (pb (a 7).b) 1 1 ∧ (a 7).b = (a 5).b
    | _ => True
def s4P (b b3 : Nat) (qo : Option Addr) (co : Nat) (op : List Nm) (nm : Nm) (p : PlanR) : PlanB (Option Addr × Nat) where
  pl k d := match k with
    | 6 => [pVw d.x.1 (strs p.put)]
    | 7 => [pOwn d.b [int 0, .slice none 0 0, .bool false]]
    | 8 => [pOwn d.b [int p.ends, .slice d.x.1 p.put.length d.x.2, .bool p.drop]]
    | _ => []
  con k := match k with
    | 7 => some 8
    | _ => none
  base k := match k with
    | _ => []
  fact k a := match k with
    | 0 => (a 0).v = ptrAt (pb b) 0
    | 1 => (a 1).v = ptrAt (pb b) 0
    | 2 => (a 2).v = ptrAt (pb b) 1
    | 3 => (a 3).v = .slice qo op.length co
    | 4 => (a 4).v = ptrAt (pb b3) 1
    | 5 => (a 5).v = str nm
    | 6 => (a 6).v = .agg ⟨[int p.ends, .slice (a 6).x.1 p.put.length (a 6).x.2, .bool p.drop]⟩
    | 7 => (a 7).v = ptrAt (pb (a 7).b) 0
    | 8 => (a 8).b = (a 7).b ∧ (a 8).x = (a 6).x
    | _ => True
def s7P (b b3 : Nat) (qg : Option Addr) (cg : Nat) (gh : List Nm) (nm : Nm) : PlanB Unit where
  pl k d := match k with
    | 18 => [pOwn d.b [str nm]]
    | 19 => [pRow 1 (pb d.b) (gh.length + 1) d.c (strs gh ++ [str nm])]
    | _ => []
  con k := match k with
    | 18 => some 19
    | _ => none
  base k := match k with
    | _ => []
  fact k a := match k with
    | 0 => (a 0).v = ptrAt (pb b) 0
    | 1 => (a 1).v = ptrAt (pb b) 0
    | 2 => (a 2).v = ptrAt (pb b) 0
    | 3 => (a 3).v = ptrAt (pb b) 2
    | 4 => (a 4).v = .slice qg gh.length cg
    | 5 => (a 5).v = ptrAt (pb b) 0
    | 6 => (a 6).v = ptrAt (pb b) 0
    | 7 => (a 7).v = ptrAt (pb b) 2
    | 8 => (a 8).v = .slice qg gh.length cg
    | 9 => (a 9).v = int gh.length
    | 10 => (a 10).v = ptrAt (pb b) 0
    | 11 => (a 11).v = ptrAt (pb b) 0
    | 12 => (a 12).v = ptrAt (pb b) 2
    | 13 => (a 13).v = .slice qg gh.length cg
    | 14 => (a 14).v = int gh.length
    | 15 => (a 15).v = .slice qg gh.length gh.length
    | 16 => (a 16).v = ptrAt (pb b3) 1
    | 17 => (a 17).v = str nm
    | 18 => (a 18).v = .slice (pb (a 18).b) 1 1
    | 19 => (a 19).v = .slice (pb (a 19).b) (gh.length + 1) (a 19).c
    | 20 => True
    | 21 => True
    | 22 => True
    | _ => True
def s8P (b3 : Nat) (ta tb td : Int) (nm : Nm) : PlanB Unit where
  pl k d := match k with
    | 5 => [pOwn d.b [int ta, int tb, int td, int 8, str nm]]
    | _ => []
  con k := match k with
    | _ => none
  base k := match k with
    | _ => []
  fact k a := match k with
    | 0 => (a 0).v = ptrAt (pb b3) 5
    | 1 => (a 1).v = .agg ⟨[int ta, int tb, int td]⟩
    | 2 => (a 2).v = ptrAt (pb b3) 1
    | 3 => (a 3).v = str nm
    | 4 => (a 4).v = .agg ⟨[int ta, int tb, int td, int 8, str nm]⟩
    | 5 => (a 5).v = .slice (pb (a 5).b) 1 1
    | 6 => (a 6).v = .slice none 0 0
    | 7 => (a 7).v = .slice (pb (a 7).b) 1 1 ∧ (a 7).b = (a 5).b
    | _ => True
set_option maxHeartbeats 8000000 in
theorem sStart_ok (m : StM) (b : Nat) (t : Tok) (tp : Option Addr) (tc : Nat) (hr : rightR m.s.op = true) (hco : m.s.op.length ≤ m.co) (hcg : m.s.gh.length ≤ m.cg) (hb1 : m.s.op.length ≤ 1024) (hb4 : m.s.gh.length ≤ 4194304) (hdp : m.dp ≤ 1024)
    (w0 w : World) (cs : List Plot) (hi : Im [] w0 tp (t.attrs.flatMap At.cells)) (hS : Sep w0 w (m.plots b cs)) :
    CallsR Tryz.prog 37 #[ptrAt (pb b) 0, .agg ⟨t.cells tp tc⟩] w (SaR m b (startB m.dp m.s t) w0 cs) := by
  obtain ⟨⟨op, gh, fr⟩, qo, co, qg, cg, dp, ov⟩ := m
  obtain ⟨tk, nm, tx, te, tf, ta, tb, td⟩ := t
  dsimp only at hr hco hcg hb1 hb4 hdp hi
  have hsg := strs_len gh
  refine enter (l := [ptrAt (pb b) 0, .agg ⟨Tok.cells ⟨tk, nm, tx, te, tf, ta, tb, td⟩ tp tc⟩]) Tryz.func37 rfl Tryz.ntmps37 (by kernel_rfl) rfl ?_
  refine WC_seq ?_
  refine WC_region ?_
  refine sbox (v := .agg ⟨Tok.cells ⟨tk, nm, tx, te, tf, ta, tb, td⟩ tp tc⟩) hS fun b3 w1 hS => ?_
  replace hS : Sep w0 w1 ([] ++ (pOwn b3 [int tk, str nm, str tx, .slice tp te.length tc, .bool tf, int ta, int tb, int td] :: pOwn b [int dp, .slice qo op.length co, .slice qg gh.length cg, .bool fr, .bool ov] :: pVw qo (strs op) :: pVw qg (strs gh) :: cs)) := hS
  refine sgo ?_
  refine wlpure (refIn15_ok nm _) fun w2 hf2 => ?_
  replace hS := hS.grow hf2
  unfold startB
  dsimp only
  have hopen := fun w' hi' => refOpen_ok op qo co nm hr hco (by omega) w' hi'
  cases hal : isAllow nm with
  | false =>
    rw [if_pos rfl]
    refine sgo ?_
    refine wcplanb (b := []) (s2P b3 ta tb td nm) ⟨.nilIface, none, 0, 0, ()⟩ hS rfl (fun j oj a a' hj he hd h => ?_) ⟨?_, ?_, ?_, ?_, ?_, ?_, ?_, ?_, trivial⟩ ?_
    · have hjl : j < 8 := (List.getElem?_eq_some_iff.1 hj).1
      match j, hjl with
      | 0, _ | 1, _ | 2, _ | 3, _ | 4, _ | 5, _ | 6, _ => first | (simp only [s2P] at h ⊢; rw [← he]; exact h) | exact h
      | 7, _ => simp only [s2P] at h ⊢; rw [← he, ← hd 5 (by cases hj; rfl)]; exact h
    · intro a σ' w' rest hσ hdep hS'   -- 0: fieldAddr; pieces:  ..
      have e3 : σ' 3 = ptrAt (pb b3) 0 := (hσ 3 (notDstB rfl)).trans rfl
      exact rule_y (y_field e3 ⟨_, rfl⟩ (by decide)) ⟨⟨ptrAt (pb b3) 5, none, 0, 0, ()⟩, rfl, rfl, hS'⟩
    · intro a σ' w' rest hσ hdep hS'   -- 1: load; pieces:  ..
      have f0 := (hdep 0 _ rfl rfl).2
      have e14 := ((hdep 0 _ rfl rfl).1 14 rfl).trans f0
      exact rule_y (y_loada e14 (Sep.sgv hS' 0 rfl) (Nat.le_of_ble_eq_true rfl) ⟨_, rfl⟩) ⟨⟨.agg ⟨[int ta, int tb, int td]⟩, none, 0, 0, ()⟩, rfl, rfl, hS'⟩
    · intro a σ' w' rest hσ hdep hS'   -- 2: fieldAddr; pieces:  ..
      have e3 : σ' 3 = ptrAt (pb b3) 0 := (hσ 3 (notDstB rfl)).trans rfl
      exact rule_y (y_field e3 ⟨_, rfl⟩ (by decide)) ⟨⟨ptrAt (pb b3) 1, none, 0, 0, ()⟩, rfl, rfl, hS'⟩
    · intro a σ' w' rest hσ hdep hS'   -- 3: load; pieces:  ..
      have f2 := (hdep 2 _ rfl rfl).2
      have e16 := ((hdep 2 _ rfl rfl).1 16 rfl).trans f2
      exact rule_y (y_load e16 (Sep.sgv hS' 0 rfl) rfl) ⟨⟨str nm, none, 0, 0, ()⟩, rfl, rfl, hS'⟩
    · intro a σ' w' rest hσ hdep hS'   -- 4: build; pieces:  ..
      have f1 := (hdep 1 _ rfl rfl).2
      have e15 := ((hdep 1 _ rfl rfl).1 15 rfl).trans f1
      have f3 := (hdep 3 _ rfl rfl).2
      have e17 := ((hdep 3 _ rfl rfl).1 17 rfl).trans f3
      exact rule_y (y_build (cells := [int ta, int tb, int td, int 0, str nm]) (by rw [bm3 (x := .tmp 15) (y := .const (.int .i64 0)) (z := .tmp 17) (u := int 0) e15 rfl e17]; simp [fillL, setSeg, Value.cells] <;> rfl)) ⟨⟨.agg ⟨[int ta, int tb, int td, int 0, str nm]⟩, none, 0, 0, ()⟩, rfl, rfl, hS'⟩
    · intro a σ' w' rest hσ hdep hS'   -- 5: buildSlice; pieces:  ..
      have f4 := (hdep 4 _ rfl rfl).2
      have e18 := ((hdep 4 _ rfl rfl).1 18 rfl).trans f4
      obtain ⟨b', w2, hy, hS2⟩ := y_bs1 (P := Tryz.prog) (t := 24) (d := some 19) (x := .tmp 18) (vs := [int ta, int tb, int td, int 0, str nm]) (size := 5) hS' e18 rfl rfl (by decide) (by decide)
      exact rule_y hy ⟨⟨.slice (pb b') 1 1, none, 0, b', ()⟩, rfl, rfl, hS2⟩
    · intro a σ' w' rest hσ hdep hS'   -- 6: assign; pieces:  ..
      exact rule_e [] trivial ⟨⟨.slice none 0 0, none, 0, 0, ()⟩, rfl, rfl, hS'⟩
    · intro a σ' w' rest hσ hdep hS'   -- 7: assign; pieces:  ..
      have f5 := (hdep 5 _ rfl rfl).2
      have e19 := ((hdep 5 _ rfl rfl).1 19 rfl).trans f5
      exact rule_e [(19, _)] ⟨e19, trivial⟩ ⟨⟨.slice (pb (a 5).b) 1 1, none, 0, (a 5).b, ()⟩, rfl, ⟨rfl, rfl⟩, hS'⟩
    · intro a σ' w' hσ hA' hS'
      have h6 := hA' 6 _ rfl
      have h7 := hA' 7 _ rfl
      rw [frameOf (σ := σ') [(4, .slice none 0 0), (5, .slice (pb (a 5).b) 1 1)] ⟨(h6.1 4 rfl).trans h6.2, (h7.1 5 rfl).trans (h7.2.1.trans (by rw [h7.2.2])), trivial⟩]
      repeat clear hS
      have hS : Sep w0 w' (pOwn (a 5).b (Fi.mk ta tb td 0 nm).cells :: pOwn b3 [int tk, str nm, str tx, .slice tp te.length tc, .bool tf, int ta, int tb, int td] :: pOwn b [int dp, .slice qo op.length co, .slice qg gh.length cg, .bool fr, .bool ov] :: pVw qo (strs op) :: pVw qg (strs gh) :: cs) := hS'
      generalize (a 5).b = b5 at *
      clear hA' hσ hS' h6 h7
      refine sgo ?_
      (first | refine fp1 (.inl rfl) rfl rfl ?_ | refine fp2 (.inl rfl) rfl rfl rfl ?_ | refine fp3 (.inl rfl) rfl rfl rfl rfl ?_ | refine fp0 (.inr rfl) rfl ?_ | refine fp0 (.inl rfl) rfl ?_ | refine fp1 (.inr rfl) rfl rfl ?_)
      refine ⟨⟨⟨op, gh, fr⟩, qo, co, qg, cg, dp, ov⟩, [], none, 0, pb b5, 1, rfl, rfl, by simp, ⟨rfl, rfl, rfl, hco, hcg⟩, ?_⟩
      exact ((hS.asRow (size := 5) (n := 1) rfl (by decide)).nilRow 4).sel 6 [3, 4, 5, 0, 1]
  | true =>
    rw [if_neg Bool.noConfusion]
    have hpl : (planR op (askR op nm)).put.length ≤ 6 := ask_put_len op nm
    have hpe : (planR op (askR op nm)).ends ≤ op.length := by show op.length - _ ≤ _; omega
    generalize planR op (askR op nm) = p at *
    refine sgo ?_
    refine wlpure (refInV_ok nm _) fun w3 hf3 => ?_
    replace hS := hS.grow hf3
    generalize isVoid nm = vd
    refine sgo ?_
    refine wcplanb (b := []) (s4P b b3 qo co op nm p) ⟨.nilIface, none, 0, 0, (none, 0)⟩ hS rfl (fun j oj a a' hj he hd h => ?_) ⟨?_, ?_, ?_, ?_, ?_, ?_, ?_, ?_, ?_, trivial⟩ ?_
    · have hjl : j < 9 := (List.getElem?_eq_some_iff.1 hj).1
      match j, hjl with
      | 0, _ | 1, _ | 2, _ | 3, _ | 4, _ | 5, _ | 6, _ | 7, _ => first | (simp only [s4P] at h ⊢; rw [← he]; exact h) | exact h
      | 8, _ => simp only [s4P] at h ⊢; rw [← he, ← hd 6 (by cases hj; rfl), ← hd 7 (by cases hj; rfl)]; exact h
    · intro a σ' w' rest hσ hdep hS'   -- 0: move; pieces:  ..
      have e0 : σ' 0 = ptrAt (pb b) 0 := (hσ 0 (notDstB rfl)).trans rfl
      exact rule_e [(0, _)] ⟨e0, trivial⟩ ⟨⟨ptrAt (pb b) 0, none, 0, 0, (none, 0)⟩, rfl, rfl, hS'⟩
    · intro a σ' w' rest hσ hdep hS'   -- 1: nilCheck; pieces:  ..
      have f0 := (hdep 0 _ rfl rfl).2
      have e23 := ((hdep 0 _ rfl rfl).1 23 rfl).trans f0
      exact rule_y (y_nilcheckp e23 ⟨_, rfl⟩) ⟨⟨ptrAt (pb b) 0, none, 0, 0, (none, 0)⟩, rfl, rfl, hS'⟩
    · intro a σ' w' rest hσ hdep hS'   -- 2: fieldAddr; pieces:  ..
      have f1 := (hdep 1 _ rfl rfl).2
      have e24 := ((hdep 1 _ rfl rfl).1 24 rfl).trans f1
      exact rule_y (y_field e24 ⟨_, rfl⟩ (by decide)) ⟨⟨ptrAt (pb b) 1, none, 0, 0, (none, 0)⟩, rfl, rfl, hS'⟩
    · intro a σ' w' rest hσ hdep hS'   -- 3: load; pieces:  ..
      have f2 := (hdep 2 _ rfl rfl).2
      have e25 := ((hdep 2 _ rfl rfl).1 25 rfl).trans f2
      exact rule_y (y_load e25 (Sep.sgv hS' 1 rfl) rfl) ⟨⟨.slice qo op.length co, none, 0, 0, (none, 0)⟩, rfl, rfl, hS'⟩
    · intro a σ' w' rest hσ hdep hS'   -- 4: fieldAddr; pieces:  ..
      have e3 : σ' 3 = ptrAt (pb b3) 0 := (hσ 3 (notDstB rfl)).trans rfl
      exact rule_y (y_field e3 ⟨_, rfl⟩ (by decide)) ⟨⟨ptrAt (pb b3) 1, none, 0, 0, (none, 0)⟩, rfl, rfl, hS'⟩
    · intro a σ' w' rest hσ hdep hS'   -- 5: load; pieces:  ..
      have f4 := (hdep 4 _ rfl rfl).2
      have e27 := ((hdep 4 _ rfl rfl).1 27 rfl).trans f4
      exact rule_y (y_load e27 (Sep.sgv hS' 0 rfl) rfl) ⟨⟨str nm, none, 0, 0, (none, 0)⟩, rfl, rfl, hS'⟩
    · intro a σ' w' rest hσ hdep hS'   -- 6: call; pieces:  ..
      have f3 := (hdep 3 _ rfl rfl).2
      have e26 := ((hdep 3 _ rfl rfl).1 26 rfl).trans f3
      have f5 := (hdep 5 _ rfl rfl).2
      have e28 := ((hdep 5 _ rfl rfl).1 28 rfl).trans f5
      refine rule_call (vals := [.slice qo op.length co, str nm]) (hopen w' (hS'.vw 2 rfl)) (fun v w2 hR => ?_) (am2 e26 e28)
      obtain ⟨q7, c7, rfl, hF7, hI7, hN7⟩ := hR
      exact ⟨⟨.agg ⟨[int p.ends, .slice q7 p.put.length c7, .bool p.drop]⟩, none, 0, 0, (q7, c7)⟩, rfl, rfl, hS'.pushVw hF7 hI7 hN7⟩
    · intro a σ' w' rest hσ hdep hS'   -- 7: alloc; pieces:  ..
      obtain ⟨b, w2, hy, hS2⟩ := y_salloc (P := Tryz.prog) (e := 94) (d := some 7) hS'
      exact rule_y hy ⟨⟨ptrAt (pb b) 0, none, 0, b, (none, 0)⟩, rfl, rfl, hS2⟩
    · intro a σ' w' rest hσ hdep hS'   -- 8: store; pieces: takes 7 ..
      have f7 := (hdep 7 _ rfl rfl).2
      have e7 := ((hdep 7 _ rfl rfl).1 7 rfl).trans f7
      have f6 := (hdep 6 _ rfl rfl).2
      have e29 := ((hdep 6 _ rfl rfl).1 29 rfl).trans f6
      obtain ⟨w2, hy, hS2⟩ := y_sst (P := Tryz.prog) (t := 94) (x := .tmp 7) (y := .tmp 29) hS' 0 rfl e7 e29 rfl (Nat.le_of_ble_eq_true rfl) (by simp [Go.Value.cells, Go.Value.oneCell'])
      exact rule_y hy ⟨⟨undef, none, 0, (a 7).b, (a 6).x⟩, rfl, ⟨rfl, rfl⟩, hS2⟩
    · intro a σ' w' hσ hA' hS'
      have h7 := hA' 7 _ rfl
      have h8 := hA' 8 _ rfl
      rw [frameOf (σ := σ') [(0, ptrAt (pb b) 0), (3, ptrAt (pb b3) 0), (6, .bool vd), (7, ptrAt (pb (a 8).b) 0)] ⟨(hσ 0 (notDst rfl)).trans rfl, (hσ 3 (notDst rfl)).trans rfl, (hσ 6 (notDst rfl)).trans rfl, (h7.1 7 rfl).trans (h7.2.trans (by rw [h8.2.1])), trivial⟩]
      repeat clear hS
      have hS : Sep w0 w' (pVw (a 6).x.1 (strs p.put) :: pOwn (a 8).b [int p.ends, .slice (a 8).x.1 p.put.length (a 8).x.2, .bool p.drop] :: pOwn b3 [int tk, str nm, str tx, .slice tp te.length tc, .bool tf, int ta, int tb, int td] :: pOwn b [int dp, .slice qo op.length co, .slice qg gh.length cg, .bool fr, .bool ov] :: pVw qo (strs op) :: pVw qg (strs gh) :: cs) := hS'
      rw [h8.2.2] at hS
      generalize (a 8).b = b4 at *
      generalize (a 6).x = x7 at *
      clear hA' hσ hS' h7 h8 hopen
      obtain ⟨q7, c7⟩ := x7
      obtain ⟨ends, put, drop, err⟩ := p
      dsimp only at hpl hpe hS ⊢
      replace hS : Sep w0 w' ((StM.mk ⟨op, gh, fr⟩ qo co qg cg dp ov).plots b (pVw q7 (strs put) :: pOwn b4 [int ends, .slice q7 put.length c7, .bool drop] :: pOwn b3 [int tk, str nm, str tx, .slice tp te.length tc, .bool tf, int ta, int tb, int td] :: cs)) := hS.sel 6 [3, 4, 5, 0, 1, 2]
      have ho4 := hS.own 4 rfl
      refine sgo ?_
      refine wlpure (sDeep_ok _ b ends q7 put.length c7 drop 1 hpe (by dsimp only; omega) (by omega) (by decide) (by dsimp only; omega) w0 _ _ hS) fun w5 hf5 => ?_
      replace hS := hS.grow hf5
      clear ho4
      dsimp only
      refine sgo ?_
      by_cases hd : dp < op.length - ends + put.length + 1
      · rw [if_pos hd]
        refine wcyes ?_ (ht := decide_eq_true hd)
        refine sgo ?_
        refine wcutt (X := Unit) (fun _ => [(3, ptrAt (pb b3) 0)]) (fun _ wr => ∃ (qg2 : Option Addr) (cg2 : Nat), (if vd then (⟨op, gh, fr⟩ : BaS) else ⟨op, gh ++ [nm], fr⟩).gh.length ≤ cg2 ∧ Sep w0 wr (pOwn b3 [int tk, str nm, str tx, .slice tp te.length tc, .bool tf, int ta, int tb, int td] :: (StM.mk (if vd then ⟨op, gh, fr⟩ else ⟨op, gh ++ [nm], fr⟩) qo co qg2 cg2 dp ov).plots b cs)) ?_ ?_
        · cases vd with
          | true =>
            refine sgo ?_
            exact ⟨(), ⟨rfl, trivial⟩, qg, cg, hcg, hS.sel 6 [5, 0, 1, 2]⟩
          | false =>
            replace hS : Sep w0 w5 ([] ++ (pOwn b3 [int tk, str nm, str tx, .slice tp te.length tc, .bool tf, int ta, int tb, int td] :: pOwn b [int dp, .slice qo op.length co, .slice qg gh.length cg, .bool fr, .bool ov] :: pVw qo (strs op) :: pVw qg (strs gh) :: cs)) := hS.sel 6 [5, 0, 1, 2]
            refine sgo ?_
            refine wcplant (b := []) 20 (s7P b b3 qg cg gh nm) ⟨.nilIface, none, 0, 0, ()⟩ hS rfl (fun j oj a a' hj he hd h => ?_) ?_ ?_
            · have hjl : j < 23 := (List.getElem?_eq_some_iff.1 hj).1
              match j, hjl with
              | 0, _ | 1, _ | 2, _ | 3, _ | 4, _ | 5, _ | 6, _ | 7, _ | 8, _ | 9, _ | 10, _ | 11, _ | 12, _ | 13, _ | 14, _ | 15, _ | 16, _ | 17, _ | 18, _ | 19, _ | 20, _ | 21, _ | 22, _ => first | (simp only [s7P] at h ⊢; rw [← he]; exact h) | exact h
            · refine ⟨?_, ?_, ?_, ?_, ?_, ?_, ?_, ?_, ?_, ?_, ?_, ?_, ?_, ?_, ?_, ?_, ?_, ?_, ?_, ?_, trivial⟩
              · intro a σ' w' rest hσ hdep hS'   -- 0: move; pieces:  ..
                have e0 : σ' 0 = ptrAt (pb b) 0 := (hσ 0 (notDstB rfl)).trans rfl
                exact rule_e [(0, _)] ⟨e0, trivial⟩ ⟨⟨ptrAt (pb b) 0, none, 0, 0, ()⟩, rfl, rfl, hS'⟩
              · intro a σ' w' rest hσ hdep hS'   -- 1: move; pieces:  ..
                have e0 : σ' 0 = ptrAt (pb b) 0 := (hσ 0 (notDstB rfl)).trans rfl
                exact rule_e [(0, _)] ⟨e0, trivial⟩ ⟨⟨ptrAt (pb b) 0, none, 0, 0, ()⟩, rfl, rfl, hS'⟩
              · intro a σ' w' rest hσ hdep hS'   -- 2: nilCheck; pieces:  ..
                have f1 := (hdep 1 _ rfl rfl).2
                have e36 := ((hdep 1 _ rfl rfl).1 36 rfl).trans f1
                exact rule_y (y_nilcheckp e36 ⟨_, rfl⟩) ⟨⟨ptrAt (pb b) 0, none, 0, 0, ()⟩, rfl, rfl, hS'⟩
              · intro a σ' w' rest hσ hdep hS'   -- 3: fieldAddr; pieces:  ..
                have f2 := (hdep 2 _ rfl rfl).2
                have e37 := ((hdep 2 _ rfl rfl).1 37 rfl).trans f2
                exact rule_y (y_field e37 ⟨_, rfl⟩ (by decide)) ⟨⟨ptrAt (pb b) 2, none, 0, 0, ()⟩, rfl, rfl, hS'⟩
              · intro a σ' w' rest hσ hdep hS'   -- 4: load; pieces:  ..
                have f3 := (hdep 3 _ rfl rfl).2
                have e38 := ((hdep 3 _ rfl rfl).1 38 rfl).trans f3
                exact rule_y (y_load e38 (Sep.sgv hS' 1 rfl) rfl) ⟨⟨.slice qg gh.length cg, none, 0, 0, ()⟩, rfl, rfl, hS'⟩
              · intro a σ' w' rest hσ hdep hS'   -- 5: move; pieces:  ..
                have e0 : σ' 0 = ptrAt (pb b) 0 := (hσ 0 (notDstB rfl)).trans rfl
                exact rule_e [(0, _)] ⟨e0, trivial⟩ ⟨⟨ptrAt (pb b) 0, none, 0, 0, ()⟩, rfl, rfl, hS'⟩
              · intro a σ' w' rest hσ hdep hS'   -- 6: nilCheck; pieces:  ..
                have f5 := (hdep 5 _ rfl rfl).2
                have e40 := ((hdep 5 _ rfl rfl).1 40 rfl).trans f5
                exact rule_y (y_nilcheckp e40 ⟨_, rfl⟩) ⟨⟨ptrAt (pb b) 0, none, 0, 0, ()⟩, rfl, rfl, hS'⟩
              · intro a σ' w' rest hσ hdep hS'   -- 7: fieldAddr; pieces:  ..
                have f6 := (hdep 6 _ rfl rfl).2
                have e41 := ((hdep 6 _ rfl rfl).1 41 rfl).trans f6
                exact rule_y (y_field e41 ⟨_, rfl⟩ (by decide)) ⟨⟨ptrAt (pb b) 2, none, 0, 0, ()⟩, rfl, rfl, hS'⟩
              · intro a σ' w' rest hσ hdep hS'   -- 8: load; pieces:  ..
                have f7 := (hdep 7 _ rfl rfl).2
                have e42 := ((hdep 7 _ rfl rfl).1 42 rfl).trans f7
                exact rule_y (y_load e42 (Sep.sgv hS' 1 rfl) rfl) ⟨⟨.slice qg gh.length cg, none, 0, 0, ()⟩, rfl, rfl, hS'⟩
              · intro a σ' w' rest hσ hdep hS'   -- 9: call; pieces:  ..
                have f8 := (hdep 8 _ rfl rfl).2
                have e43 := ((hdep 8 _ rfl rfl).1 43 rfl).trans f8
                exact rule_y (y_len e43 rfl) ⟨⟨int gh.length, none, 0, 0, ()⟩, rfl, rfl, hS'⟩
              · intro a σ' w' rest hσ hdep hS'   -- 10: move; pieces:  ..
                have e0 : σ' 0 = ptrAt (pb b) 0 := (hσ 0 (notDstB rfl)).trans rfl
                exact rule_e [(0, _)] ⟨e0, trivial⟩ ⟨⟨ptrAt (pb b) 0, none, 0, 0, ()⟩, rfl, rfl, hS'⟩
              · intro a σ' w' rest hσ hdep hS'   -- 11: nilCheck; pieces:  ..
                have f10 := (hdep 10 _ rfl rfl).2
                have e45 := ((hdep 10 _ rfl rfl).1 45 rfl).trans f10
                exact rule_y (y_nilcheckp e45 ⟨_, rfl⟩) ⟨⟨ptrAt (pb b) 0, none, 0, 0, ()⟩, rfl, rfl, hS'⟩
              · intro a σ' w' rest hσ hdep hS'   -- 12: fieldAddr; pieces:  ..
                have f11 := (hdep 11 _ rfl rfl).2
                have e46 := ((hdep 11 _ rfl rfl).1 46 rfl).trans f11
                exact rule_y (y_field e46 ⟨_, rfl⟩ (by decide)) ⟨⟨ptrAt (pb b) 2, none, 0, 0, ()⟩, rfl, rfl, hS'⟩
              · intro a σ' w' rest hσ hdep hS'   -- 13: load; pieces:  ..
                have f12 := (hdep 12 _ rfl rfl).2
                have e47 := ((hdep 12 _ rfl rfl).1 47 rfl).trans f12
                exact rule_y (y_load e47 (Sep.sgv hS' 1 rfl) rfl) ⟨⟨.slice qg gh.length cg, none, 0, 0, ()⟩, rfl, rfl, hS'⟩
              · intro a σ' w' rest hσ hdep hS'   -- 14: call; pieces:  ..
                have f13 := (hdep 13 _ rfl rfl).2
                have e48 := ((hdep 13 _ rfl rfl).1 48 rfl).trans f13
                exact rule_y (y_len e48 rfl) ⟨⟨int gh.length, none, 0, 0, ()⟩, rfl, rfl, hS'⟩
              · intro a σ' w' rest hσ hdep hS'   -- 15: slice; pieces:  ..
                have f4 := (hdep 4 _ rfl rfl).2
                have e39 := ((hdep 4 _ rfl rfl).1 39 rfl).trans f4
                have f9 := (hdep 9 _ rfl rfl).2
                have e44 := ((hdep 9 _ rfl rfl).1 44 rfl).trans f9
                have f14 := (hdep 14 _ rfl rfl).2
                have e49 := ((hdep 14 _ rfl rfl).1 49 rfl).trans f14
                exact rule_y (y_rslice3 e39 e44 e49 ⟨Nat.le_refl _, hcg⟩) ⟨⟨.slice qg gh.length gh.length, none, 0, 0, ()⟩, rfl, rfl, hS'⟩
              · intro a σ' w' rest hσ hdep hS'   -- 16: fieldAddr; pieces:  ..
                have e3 : σ' 3 = ptrAt (pb b3) 0 := (hσ 3 (notDstB rfl)).trans rfl
                exact rule_y (y_field e3 ⟨_, rfl⟩ (by decide)) ⟨⟨ptrAt (pb b3) 1, none, 0, 0, ()⟩, rfl, rfl, hS'⟩
              · intro a σ' w' rest hσ hdep hS'   -- 17: load; pieces:  ..
                have f16 := (hdep 16 _ rfl rfl).2
                have e51 := ((hdep 16 _ rfl rfl).1 51 rfl).trans f16
                exact rule_y (y_load e51 (Sep.sgv hS' 0 rfl) rfl) ⟨⟨str nm, none, 0, 0, ()⟩, rfl, rfl, hS'⟩
              · intro a σ' w' rest hσ hdep hS'   -- 18: buildSlice; pieces:  ..
                have f17 := (hdep 17 _ rfl rfl).2
                have e52 := ((hdep 17 _ rfl rfl).1 52 rfl).trans f17
                obtain ⟨b, w2, hy, hS2⟩ := y_bs1s (P := Tryz.prog) (t := 41) (d := some 53) (x := .tmp 52) hS' e52 rfl
                exact rule_y hy ⟨⟨.slice (pb b) 1 1, none, 0, b, ()⟩, rfl, rfl, hS2⟩
              · intro a σ' w' rest hσ hdep hS'   -- 19: call; pieces: takes 18 ..
                have f15 := (hdep 15 _ rfl rfl).2
                have e50 := ((hdep 15 _ rfl rfl).1 50 rfl).trans f15
                have f18 := (hdep 18 _ rfl rfl).2
                have e53 := ((hdep 18 _ rfl rfl).1 53 rfl).trans f18
                obtain ⟨b, c2, w2, hy, hS2⟩ := y_appf (P := Tryz.prog) (t := 41) (t' := 41) (ty := 41) (d := some 54) (x := .tmp 50) (y := .tmp 53) (n := gh.length) (m := 1) (size := 1) hS' (hS'.sgv 4 rfl) (hS'.own 0 rfl).sg (by rw [strs_len, Nat.mul_one]) e50 e53 rfl (by simp [Go.Value.oneCell']) rfl (by decide) (by omega) (by omega)
                exact rule_y hy ⟨⟨.slice (pb b) (gh.length + 1) c2, none, c2, b, ()⟩, rfl, rfl, hS2.drop 1 rfl⟩
            · intro a σ' w' hσ hA' hS'
              have h0 := hA' 0 _ rfl
              have h19 := hA' 19 _ rfl
              rw [frameOf (σ := σ') [(3, ptrAt (pb b3) 0), (35, ptrAt (pb b) 0), (54, .slice (pb (a 19).b) (gh.length + 1) (a 19).c)] ⟨(hσ 3 (notDst rfl)).trans rfl, (h0.1 35 rfl).trans h0.2, (h19.1 54 rfl).trans h19.2, trivial⟩]
              repeat clear hS
              have hS : Sep w0 w' (pRow 1 (pb (a 19).b) (gh.length + 1) (a 19).c (strs gh ++ [str nm]) :: pOwn b3 [int tk, str nm, str tx, .slice tp te.length tc, .bool tf, int ta, int tb, int td] :: pOwn b [int dp, .slice qo op.length co, .slice qg gh.length cg, .bool fr, .bool ov] :: pVw qo (strs op) :: pVw qg (strs gh) :: cs) := hS'
              have hrow := (hS.row 0 rfl).le_cap
              rw [strs_snoc, show gh.length + 1 = (gh ++ [nm]).length by simp] at hS
              rw [show gh.length + 1 = (gh ++ [nm]).length by simp] at hrow
              rw [show gh.length + 1 = (gh ++ [nm]).length by simp]
              generalize pb (a 19).b = q5 at *
              generalize (a 19).c = c5 at *
              clear hA' hσ hS' h0 h19
              refine sgo ?_
              refine sst_slice hS 2 fun w6 hS => ?_
              refine sgo ?_
              exact ⟨(), ⟨rfl, trivial⟩, q5, c5, hrow.1, (hS.rowVw 0 rfl).sel 5 [1, 2, 3, 0]⟩
        · repeat clear hS
          have hs2co : (if vd then (⟨op, gh, fr⟩ : BaS) else ⟨op, gh ++ [nm], fr⟩).op.length ≤ co := by split <;> exact hco
          generalize (if vd then (⟨op, gh, fr⟩ : BaS) else ⟨op, gh ++ [nm], fr⟩) = s2 at *
          rintro _ w6 ρ ⟨qg2, cg2, hcg2, hS⟩
          replace hS : Sep w0 w6 ([] ++ (pOwn b3 [int tk, str nm, str tx, .slice tp te.length tc, .bool tf, int ta, int tb, int td] :: (StM.mk s2 qo co qg2 cg2 dp ov).plots b cs)) := hS
          refine sgo ?_
          refine wcplanb (b := []) (s8P b3 ta tb td nm) ⟨.nilIface, none, 0, 0, ()⟩ hS rfl (fun j oj a a' hj he hd h => ?_) ⟨?_, ?_, ?_, ?_, ?_, ?_, ?_, ?_, trivial⟩ ?_
          · have hjl : j < 8 := (List.getElem?_eq_some_iff.1 hj).1
            match j, hjl with
            | 0, _ | 1, _ | 2, _ | 3, _ | 4, _ | 5, _ | 6, _ => first | (simp only [s8P] at h ⊢; rw [← he]; exact h) | exact h
            | 7, _ => simp only [s8P] at h ⊢; rw [← he, ← hd 5 (by cases hj; rfl)]; exact h
          · intro a σ' w' rest hσ hdep hS'   -- 0: fieldAddr; pieces:  ..
            have e3 : σ' 3 = ptrAt (pb b3) 0 := (hσ 3 (notDstB rfl)).trans rfl
            exact rule_y (y_field e3 ⟨_, rfl⟩ (by decide)) ⟨⟨ptrAt (pb b3) 5, none, 0, 0, ()⟩, rfl, rfl, hS'⟩
          · intro a σ' w' rest hσ hdep hS'   -- 1: load; pieces:  ..
            have f0 := (hdep 0 _ rfl rfl).2
            have e57 := ((hdep 0 _ rfl rfl).1 57 rfl).trans f0
            exact rule_y (y_loada e57 (Sep.sgv hS' 0 rfl) (Nat.le_of_ble_eq_true rfl) ⟨_, rfl⟩) ⟨⟨.agg ⟨[int ta, int tb, int td]⟩, none, 0, 0, ()⟩, rfl, rfl, hS'⟩
          · intro a σ' w' rest hσ hdep hS'   -- 2: fieldAddr; pieces:  ..
            have e3 : σ' 3 = ptrAt (pb b3) 0 := (hσ 3 (notDstB rfl)).trans rfl
            exact rule_y (y_field e3 ⟨_, rfl⟩ (by decide)) ⟨⟨ptrAt (pb b3) 1, none, 0, 0, ()⟩, rfl, rfl, hS'⟩
          · intro a σ' w' rest hσ hdep hS'   -- 3: load; pieces:  ..
            have f2 := (hdep 2 _ rfl rfl).2
            have e59 := ((hdep 2 _ rfl rfl).1 59 rfl).trans f2
            exact rule_y (y_load e59 (Sep.sgv hS' 0 rfl) rfl) ⟨⟨str nm, none, 0, 0, ()⟩, rfl, rfl, hS'⟩
          · intro a σ' w' rest hσ hdep hS'   -- 4: build; pieces:  ..
            have f1 := (hdep 1 _ rfl rfl).2
            have e58 := ((hdep 1 _ rfl rfl).1 58 rfl).trans f1
            have f3 := (hdep 3 _ rfl rfl).2
            have e60 := ((hdep 3 _ rfl rfl).1 60 rfl).trans f3
            exact rule_y (y_build (cells := [int ta, int tb, int td, int 8, str nm]) (by rw [bm3 (x := .tmp 58) (y := .const (.int .i64 8)) (z := .tmp 60) (u := int 8) e58 rfl e60]; simp [fillL, setSeg, Value.cells] <;> rfl)) ⟨⟨.agg ⟨[int ta, int tb, int td, int 8, str nm]⟩, none, 0, 0, ()⟩, rfl, rfl, hS'⟩
          · intro a σ' w' rest hσ hdep hS'   -- 5: buildSlice; pieces:  ..
            have f4 := (hdep 4 _ rfl rfl).2
            have e61 := ((hdep 4 _ rfl rfl).1 61 rfl).trans f4
            obtain ⟨b', w2, hy, hS2⟩ := y_bs1 (P := Tryz.prog) (t := 24) (d := some 62) (x := .tmp 61) (vs := [int ta, int tb, int td, int 8, str nm]) (size := 5) hS' e61 rfl rfl (by decide) (by decide)
            exact rule_y hy ⟨⟨.slice (pb b') 1 1, none, 0, b', ()⟩, rfl, rfl, hS2⟩
          · intro a σ' w' rest hσ hdep hS'   -- 6: assign; pieces:  ..
            exact rule_e [] trivial ⟨⟨.slice none 0 0, none, 0, 0, ()⟩, rfl, rfl, hS'⟩
          · intro a σ' w' rest hσ hdep hS'   -- 7: assign; pieces:  ..
            have f5 := (hdep 5 _ rfl rfl).2
            have e62 := ((hdep 5 _ rfl rfl).1 62 rfl).trans f5
            exact rule_e [(62, _)] ⟨e62, trivial⟩ ⟨⟨.slice (pb (a 5).b) 1 1, none, 0, (a 5).b, ()⟩, rfl, ⟨rfl, rfl⟩, hS'⟩
          · intro a σ' w' hσ hA' hS'
            have h6 := hA' 6 _ rfl
            have h7 := hA' 7 _ rfl
            rw [frameOf (σ := σ') [(4, .slice none 0 0), (5, .slice (pb (a 5).b) 1 1)] ⟨(h6.1 4 rfl).trans h6.2, (h7.1 5 rfl).trans (h7.2.1.trans (by rw [h7.2.2])), trivial⟩]
            repeat clear hS
            have hS : Sep w0 w' (pOwn (a 5).b (Fi.mk ta tb td 8 nm).cells :: pOwn b3 [int tk, str nm, str tx, .slice tp te.length tc, .bool tf, int ta, int tb, int td] :: (StM.mk s2 qo co qg2 cg2 dp ov).plots b cs) := hS'
            generalize (a 5).b = b5 at *
            clear hA' hσ hS' h6 h7
            refine sgo ?_
            (first | refine fp1 (.inl rfl) rfl rfl ?_ | refine fp2 (.inl rfl) rfl rfl rfl ?_ | refine fp3 (.inl rfl) rfl rfl rfl rfl ?_ | refine fp0 (.inr rfl) rfl ?_ | refine fp0 (.inl rfl) rfl ?_ | refine fp1 (.inr rfl) rfl rfl ?_)
            refine ⟨StM.mk s2 qo co qg2 cg2 dp ov, [], none, 0, pb b5, 1, rfl, rfl, by simp, ⟨rfl, rfl, rfl, hs2co, hcg2⟩, ?_⟩
            exact ((hS.asRow (size := 5) (n := 1) rfl (by decide)).nilRow 4).sel 6 [3, 4, 5, 0, 1]
      · rw [if_neg hd]
        refine wcno ?_ (ht := decide_eq_false hd)
        have ho4 := hS.own 4 rfl
        have ho3 := hS.own 5 rfl
        refine sgo ?_
        refine wlcall (sReady_ok _ b ⟨tk, nm, tx, te, tf, ta, tb, td⟩ ⟨ends, put, drop, err⟩ q7 c7 hpe hco hcg (by dsimp only; omega) w0 _ _ hS) ?_
        clear ho3 ho4
        repeat clear hS
        rintro _ w7 ⟨m4, ql, cl, qf, cf, rfl, hto4, hS⟩
        have hop4 : m4.s.op.length ≤ 2048 := by
          rw [hto4.s, followB, (pushes_op _ _).1, List.length_append, popB_op, List.length_take]; dsimp only; omega
        have hel : (followE (⟨op, gh, fr⟩ : BaS) ⟨ends, put, drop, err⟩).length ≤ 2048 := by
          rw [(follow_len _ _ hpe).1]; dsimp only; omega
        have hms : ∀ (e : EvM), e.e.attrs = te → e.p = tp → ∀ x ∈ (followE (⟨op, gh, fr⟩ : BaS) ⟨ends, put, drop, err⟩).map mk0 ++ [e], Im [] w0 x.p (x.e.attrs.flatMap At.cells) := by
          intro e h1 h2 x hx
          rcases List.mem_append.1 hx with hx | hx
          · exact mk0_im w0 _ (follow_attrs _ _) x hx
          · obtain rfl := List.mem_singleton.1 hx
            rw [h1, h2]; exact hi
        have hev : ∀ e : EvM, evs ((followE (⟨op, gh, fr⟩ : BaS) ⟨ends, put, drop, err⟩).map mk0 ++ [e]) = followE (⟨op, gh, fr⟩ : BaS) ⟨ends, put, drop, err⟩ ++ [e.e] := fun e => by rw [evs_snoc, mk0_evs]
        have hml : ∀ e : EvM, ((followE (⟨op, gh, fr⟩ : BaS) ⟨ends, put, drop, err⟩).map mk0 ++ [e]).length = (followE (⟨op, gh, fr⟩ : BaS) ⟨ends, put, drop, err⟩).length + 1 := fun e => by simp
        generalize followE (⟨op, gh, fr⟩ : BaS) ⟨ends, put, drop, err⟩ = E at *
        generalize followF ⟨tk, nm, tx, te, tf, ta, tb, td⟩ ⟨ends, put, drop, err⟩ = FF at *
        obtain ⟨s4, qo4, co4, qg4, cg4, dp4, ov4⟩ := m4
        dsimp only at hop4
        replace hS : Sep w0 w7 (pOwn b3 [int tk, str nm, str tx, .slice tp te.length tc, .bool tf, int ta, int tb, int td] :: pOwn b [int dp4, .slice qo4 s4.op.length co4, .slice qg4 s4.gh.length cg4, .bool s4.fr, .bool ov4] :: pVw qo4 (strs s4.op) :: pVw qg4 (strs s4.gh) :: pRow 4 ql E.length cl ((E.map mk0).flatMap EvM.cells) :: pRow 5 qf FF.length cf (FF.flatMap Fi.cells) :: cs) := hS.sel 8 [7, 0, 1, 2, 3, 4]
        refine sgo ?_
        cases vd with
        | true =>
          rw [if_pos rfl]
          refine sgo ?_
          refine sst_bool hS 1 fun w8 hS => ?_
          refine sgo ?_
          refine wlbuild (cells := [int 3, str nm, str [], .slice tp te.length tc]) ?_
          refine sgo ?_
          refine sb1a (vs := (EvM.mk (voE nm te) tp tc).cells) hS fun b9 w9 hS => ?_
          refine sgo ?_
          refine sapp hS 5 (hS.own 0 rfl).sg (fun q2 c2 w10 hS => ?_) (h1 := ev_one _ _ _)
          rw [evs_flat] at hS
          refine sgo ?_
          (first | refine fp1 (.inl rfl) rfl rfl ?_ | refine fp2 (.inl rfl) rfl rfl rfl ?_ | refine fp3 (.inl rfl) rfl rfl rfl rfl ?_ | refine fp0 (.inr rfl) rfl ?_ | refine fp0 (.inl rfl) rfl ?_ | refine fp1 (.inr rfl) rfl rfl ?_)
          refine ⟨⟨⟨s4.op, s4.gh, false⟩, qo4, co4, qg4, cg4, dp4, ov4⟩, E.map mk0 ++ [EvM.mk (voE nm te) tp tc], q2, c2, qf, cf, (by rw [hml]; rfl), hev _, hms _ rfl rfl, ⟨?_, hto4.dp, hto4.ov, hto4.co, hto4.cg⟩, ?_⟩
          · dsimp only; rw [← hto4.s]
          · rw [hml]; exact hS.sel 7 [2, 3, 4, 5, 6]
        | false =>
          rw [if_neg Bool.noConfusion]
          have ho3 := hS.own 0 rfl
          replace hS : Sep w0 w7 ((StM.mk s4 qo4 co4 qg4 cg4 dp4 ov4).plots b (pOwn b3 [int tk, str nm, str tx, .slice tp te.length tc, .bool tf, int ta, int tb, int td] :: pRow 4 ql E.length cl ((E.map mk0).flatMap EvM.cells) :: pRow 5 qf FF.length cf (FF.flatMap Fi.cells) :: cs)) := hS.sel 6 [1, 2, 3, 0, 4, 5]
          refine sgo ?_
          refine wlcall (sOpen_ok _ b nm te.length tp tc hto4.co hto4.cg (by dsimp only; omega) w0 _ _ hS) ?_
          clear ho3
          repeat clear hS
          rintro _ w8 ⟨m5, rfl, hto5, hS⟩
          refine sgo ?_
          refine sb1a (vs := (EvM.mk (opE nm te) tp tc).cells) hS fun b9 w9 hS => ?_
          refine sgo ?_
          refine sapp hS 5 (hS.own 0 rfl).sg (fun q2 c2 w10 hS => ?_) (h1 := ev_one _ _ _)
          rw [evs_flat] at hS
          refine sgo ?_
          (first | refine fp1 (.inl rfl) rfl rfl ?_ | refine fp2 (.inl rfl) rfl rfl rfl ?_ | refine fp3 (.inl rfl) rfl rfl rfl rfl ?_ | refine fp0 (.inr rfl) rfl ?_ | refine fp0 (.inl rfl) rfl ?_ | refine fp1 (.inr rfl) rfl rfl ?_)
          have h := hto4.trans hto5
          rw [hto4.s] at h
          exact ⟨m5, E.map mk0 ++ [EvM.mk (opE nm te) tp tc], q2, c2, qf, cf, (by rw [hml]; rfl), hev _, hms _ rfl rfl, h, by rw [hml]; exact hS.sel 7 [1, 2, 3, 5, 6]⟩
end Go.Proofs.YtmnnffenijjpcaaGreatDoor

/-
  Package sieveref17: text, end.
-/
set_option linter.unusedSimpArgs false
set_option linter.unusedVariables false
set_option linter.unnecessarySimpa false
namespace Go.Proofs.YtmnnffenijjpcaaGreatDoor
open Go Go.Sv Go.RowKit

def t6P (b : Nat) (qo : Option Addr) (co : Nat) (op : List Nm) (x : Nm) (p : PlanR) : PlanB (Option Addr × Nat) where
  pl k d := match k with
    | 6 => [pVw d.x.1 (strs p.put)]
    | 7 => [pOwn d.b [int 0, .slice none 0 0, .bool false]]
    | 8 => [pOwn d.b [int p.ends, .slice d.x.1 p.put.length d.x.2, .bool p.drop]]
    | _ => []
  con k := match k with
    | 7 => some 8
    | _ => none
  base k := match k with
    | _ => []
  fact k a := match k with
    | 0 => (a 0).v = ptrAt (pb b) 0
    | 1 => (a 1).v = ptrAt (pb b) 0
    | 2 => (a 2).v = ptrAt (pb b) 1
    | 3 => (a 3).v = .slice qo op.length co
    | 4 => (a 4).v = str x
    | 5 => (a 5).v = .bool (isBlank x)
    | 6 => (a 6).v = .agg ⟨[int p.ends, .slice (a 6).x.1 p.put.length (a 6).x.2, .bool p.drop]⟩
    | 7 => (a 7).v = ptrAt (pb (a 7).b) 0
    | 8 => (a 8).b = (a 7).b ∧ (a 8).x = (a 6).x
    | _ => True
def t10P (b3 : Nat) (ta tb td : Int) : PlanB Unit where
  pl k d := match k with
    | 3 => [pOwn d.b [int ta, int tb, int td, int 8, str []]]
    | _ => []
  con k := match k with
    | _ => none
  base k := match k with
    | _ => []
  fact k a := match k with
    | 0 => (a 0).v = ptrAt (pb b3) 5
    | 1 => (a 1).v = .agg ⟨[int ta, int tb, int td]⟩
    | 2 => (a 2).v = .agg ⟨[int ta, int tb, int td, int 8, str []]⟩
    | 3 => (a 3).v = .slice (pb (a 3).b) 1 1
    | 4 => (a 4).v = .slice none 0 0
    | 5 => (a 5).v = .slice (pb (a 5).b) 1 1 ∧ (a 5).b = (a 3).b
    | _ => True
set_option maxHeartbeats 8000000 in
theorem sText_ok (m : StM) (b : Nat) (t : Tok) (tp : Option Addr) (tc : Nat) (hr : rightR m.s.op = true) (hco : m.s.op.length ≤ m.co) (hcg : m.s.gh.length ≤ m.cg) (hb1 : m.s.op.length ≤ 1024) (hdp : m.dp ≤ 1024) (htl : t.text.length ≤ 1048576)
    (w0 w : World) (cs : List Plot) (hS : Sep w0 w (m.plots b cs)) :
    CallsR Tryz.prog 38 #[ptrAt (pb b) 0, .agg ⟨t.cells tp tc⟩] w (SaR m b (textB m.dp m.s t) w0 cs) := by
  obtain ⟨⟨op, gh, fr⟩, qo, co, qg, cg, dp, ov⟩ := m
  obtain ⟨tk, nm, tx, te, tf, ta, tb, td⟩ := t
  dsimp only at hr hco hcg hb1 hdp htl
  refine enter (l := [ptrAt (pb b) 0, .agg ⟨Tok.cells ⟨tk, nm, tx, te, tf, ta, tb, td⟩ tp tc⟩]) Tryz.func38 rfl Tryz.ntmps38 (by kernel_rfl) rfl ?_
  refine WC_seq ?_
  refine WC_region ?_
  refine sbox (v := .agg ⟨Tok.cells ⟨tk, nm, tx, te, tf, ta, tb, td⟩ tp tc⟩) hS fun b3 w1 hS => ?_
  replace hS : Sep w0 w1 (pOwn b3 [int tk, str nm, str tx, .slice tp te.length tc, .bool tf, int ta, int tb, int td] :: pOwn b [int dp, .slice qo op.length co, .slice qg gh.length cg, .bool fr, .bool ov] :: pVw qo (strs op) :: pVw qg (strs gh) :: cs) := hS
  refine sgo ?_
  unfold textB
  dsimp only
  have hhl : (headB ⟨op, gh, fr⟩ ⟨tk, nm, tx, te, tf, ta, tb, td⟩).length ≤ 1048576 := by
    unfold headB
    have := lf_len tx
    split
    · dsimp only; omega
    · exact htl
  refine wcutj (X := Unit) (fun _ => [(0, ptrAt (pb b) 0), (3, ptrAt (pb b3) 0), (6, str (headB ⟨op, gh, fr⟩ ⟨tk, nm, tx, te, tf, ta, tb, td⟩))])
    (fun _ wr => Sep w0 wr (pOwn b3 [int tk, str nm, str tx, .slice tp te.length tc, .bool tf, int ta, int tb, int td] :: pOwn b [int dp, .slice qo op.length co, .slice qg gh.length cg, .bool fr, .bool ov] :: pVw qo (strs op) :: pVw qg (strs gh) :: cs)) ?_ ?_
  · refine wcloop (X := List UInt8) (fun x => [(0, ptrAt (pb b) 0), (3, ptrAt (pb b3) 0), (6, str x)]) (fun x wr => x.length ≤ tx.length ∧ (if fr then lfR x else x) = headB ⟨op, gh, fr⟩ ⟨tk, nm, tx, te, tf, ta, tb, td⟩ ∧ Sep w0 wr (pOwn b3 [int tk, str nm, str tx, .slice tp te.length tc, .bool tf, int ta, int tb, int td] :: pOwn b [int dp, .slice qo op.length co, .slice qg gh.length cg, .bool fr, .bool ov] :: pVw qo (strs op) :: pVw qg (strs gh) :: cs))
      (fun x => x.length) tx ⟨rfl, rfl, rfl, trivial⟩ ⟨Nat.le_refl _, rfl, hS⟩ ?_
    repeat clear hS
    rintro x wr ρ ⟨hxl, hx, hS⟩
    cases fr with
    | false =>
      rw [if_neg Bool.noConfusion] at hx
      refine sgo ?_
      refine wcno ?_ (ht := by simp [pkb])
      refine sgo ?_
      exact ⟨(), ⟨rfl, rfl, by rw [← hx]; rfl, trivial⟩, hS⟩
    | true =>
      rw [if_pos rfl] at hx
      cases x with
      | nil =>
        refine sgo ?_
        exact ⟨(), ⟨rfl, rfl, by rw [← hx]; rfl, trivial⟩, hS⟩
      | cons y x =>
        have hlen : (y :: x).length = x.length + 1 := rfl
        have h0 : (y :: x)[0]?.getD 0 = y := rfl
        have h1 : (y :: x).drop 1 = x := rfl
        have hne : decide (y :: x ≠ []) = true := decide_eq_true (by simp)
        have hdw : lfR (y :: x) = if decide (y = 10) then lfR x else y :: x := by unfold lfR; rw [List.dropWhile_cons]
        have hy10 : decide (((y.toNat : Nat) : Int) = 10) = decide (y = 10) := decide_eq_decide.2 (by
          constructor
          · intro h; apply UInt8.toNat.inj; rw [show ((10 : UInt8)).toNat = 10 from rfl]; omega
          · intro h; rw [h]; rfl)
        generalize hz : y :: x = z at *
        refine sgo ?_
        rw [hne]
        refine sgo ?_
        rw [h0]
        refine sgo ?_
        cases hbk : decide (y = 10) with
        | true =>
          rw [hbk, if_pos rfl] at hdw
          refine wcyes ?_ (ht := by simp only [pkb_and]; rw [hy10, hbk]; rfl)
          refine sgo ?_
          refine ⟨x, ⟨rfl, rfl, ?_, trivial⟩, ⟨by omega, ?_, hS⟩, by omega⟩
          · exact congrArg str h1
          · rw [if_pos rfl, ← hdw]; exact hx
        | false =>
          rw [hbk, if_neg Bool.noConfusion] at hdw
          refine wcno ?_ (ht := by simp only [pkb_and]; rw [hy10, hbk]; rfl)
          refine sgo ?_
          exact ⟨(), ⟨rfl, rfl, by rw [← hx, hdw]; rfl, trivial⟩, hS⟩
  repeat clear hS
  rintro _ w2 ρ hS
  generalize headB ⟨op, gh, fr⟩ ⟨tk, nm, tx, te, tf, ta, tb, td⟩ = x at *
  have hxl := hhl
  refine sgo ?_
  by_cases hx : x = []
  · rw [if_pos hx]
    refine wcyes ?_ (ht := decide_eq_true hx)
    refine sgo ?_
    (first | refine fp1 (.inl rfl) rfl rfl ?_ | refine fp2 (.inl rfl) rfl rfl rfl ?_ | refine fp3 (.inl rfl) rfl rfl rfl rfl ?_ | refine fp0 (.inr rfl) rfl ?_ | refine fp0 (.inl rfl) rfl ?_ | refine fp1 (.inr rfl) rfl rfl ?_)
    exact ⟨⟨⟨op, gh, fr⟩, qo, co, qg, cg, dp, ov⟩, [], none, 0, none, 0, rfl, rfl, by simp, ⟨rfl, rfl, rfl, hco, hcg⟩, ((hS.tail.nilRow 5).nilRow 4).sel 5 [2, 3, 4, 0, 1]⟩
  rw [if_neg hx]
  refine wcno ?_ (ht := decide_eq_false hx)
  have hopen := fun w' hi' => refText_ok op qo co (isBlank x) hr hco (by omega) w' hi'
  rw [refText_eq hr] at hopen
  obtain ⟨hpe, hpl⟩ := nText_bnd op (isBlank x)
  generalize nTextR op (isBlank x) = p at hopen hpl hpe ⊢
  replace hS : Sep w0 w2 ([] ++ (pOwn b3 [int tk, str nm, str tx, .slice tp te.length tc, .bool tf, int ta, int tb, int td] :: pOwn b [int dp, .slice qo op.length co, .slice qg gh.length cg, .bool fr, .bool ov] :: pVw qo (strs op) :: pVw qg (strs gh) :: cs)) := hS
  refine sgo ?_
  refine wcplanb (b := []) (t6P b qo co op x p) ⟨.nilIface, none, 0, 0, (none, 0)⟩ hS rfl (fun j oj a a' hj he hd h => ?_) ⟨?_, ?_, ?_, ?_, ?_, ?_, ?_, ?_, ?_, trivial⟩ ?_
  · have hjl : j < 9 := (List.getElem?_eq_some_iff.1 hj).1
    match j, hjl with
    | 0, _ | 1, _ | 2, _ | 3, _ | 4, _ | 5, _ | 6, _ | 7, _ => first | (simp only [t6P] at h ⊢; rw [← he]; exact h) | exact h
    | 8, _ => simp only [t6P] at h ⊢; rw [← he, ← hd 6 (by cases hj; rfl), ← hd 7 (by cases hj; rfl)]; exact h
  · intro a σ' w' rest hσ hdep hS'   -- 0: move; pieces:  ..
    have e0 : σ' 0 = ptrAt (pb b) 0 := (hσ 0 (notDstB rfl)).trans rfl
    exact rule_e [(0, _)] ⟨e0, trivial⟩ ⟨⟨ptrAt (pb b) 0, none, 0, 0, (none, 0)⟩, rfl, rfl, hS'⟩
  · intro a σ' w' rest hσ hdep hS'   -- 1: nilCheck; pieces:  ..
    have f0 := (hdep 0 _ rfl rfl).2
    have e29 := ((hdep 0 _ rfl rfl).1 29 rfl).trans f0
    exact rule_y (y_nilcheckp e29 ⟨_, rfl⟩) ⟨⟨ptrAt (pb b) 0, none, 0, 0, (none, 0)⟩, rfl, rfl, hS'⟩
  · intro a σ' w' rest hσ hdep hS'   -- 2: fieldAddr; pieces:  ..
    have f1 := (hdep 1 _ rfl rfl).2
    have e30 := ((hdep 1 _ rfl rfl).1 30 rfl).trans f1
    exact rule_y (y_field e30 ⟨_, rfl⟩ (by decide)) ⟨⟨ptrAt (pb b) 1, none, 0, 0, (none, 0)⟩, rfl, rfl, hS'⟩
  · intro a σ' w' rest hσ hdep hS'   -- 3: load; pieces:  ..
    have f2 := (hdep 2 _ rfl rfl).2
    have e31 := ((hdep 2 _ rfl rfl).1 31 rfl).trans f2
    exact rule_y (y_load e31 (Sep.sgv hS' 1 rfl) rfl) ⟨⟨.slice qo op.length co, none, 0, 0, (none, 0)⟩, rfl, rfl, hS'⟩
  · intro a σ' w' rest hσ hdep hS'   -- 4: move; pieces:  ..
    have e6 : σ' 6 = str x := (hσ 6 (notDstB rfl)).trans rfl
    exact rule_e [(6, _)] ⟨e6, trivial⟩ ⟨⟨str x, none, 0, 0, (none, 0)⟩, rfl, rfl, hS'⟩
  · intro a σ' w' rest hσ hdep hS'   -- 5: call; pieces:  ..
    have f4 := (hdep 4 _ rfl rfl).2
    have e33 := ((hdep 4 _ rfl rfl).1 33 rfl).trans f4
    exact rule_pure (sBlank_ok x hxl w') (fun w2 hf2 => ⟨⟨.bool (isBlank x), none, 0, 0, (none, 0)⟩, rfl, rfl, hS'.grow hf2⟩) (am1 e33)
  · intro a σ' w' rest hσ hdep hS'   -- 6: call; pieces:  ..
    have f3 := (hdep 3 _ rfl rfl).2
    have e32 := ((hdep 3 _ rfl rfl).1 32 rfl).trans f3
    have f5 := (hdep 5 _ rfl rfl).2
    have e34 := ((hdep 5 _ rfl rfl).1 34 rfl).trans f5
    refine rule_call (vals := [.slice qo op.length co, .bool (isBlank x)]) (hopen w' (hS'.vw 2 rfl)) (fun v w2 hR => ?_) (am2 e32 e34)
    obtain ⟨q7, c7, rfl, hF7, hI7, hN7⟩ := hR
    exact ⟨⟨.agg ⟨[int p.ends, .slice q7 p.put.length c7, .bool p.drop]⟩, none, 0, 0, (q7, c7)⟩, rfl, rfl, hS'.pushVw hF7 hI7 hN7⟩
  · intro a σ' w' rest hσ hdep hS'   -- 7: alloc; pieces:  ..
    obtain ⟨b, w2, hy, hS2⟩ := y_salloc (P := Tryz.prog) (e := 94) (d := some 7) hS'
    exact rule_y hy ⟨⟨ptrAt (pb b) 0, none, 0, b, (none, 0)⟩, rfl, rfl, hS2⟩
  · intro a σ' w' rest hσ hdep hS'   -- 8: store; pieces: takes 7 ..
    have f7 := (hdep 7 _ rfl rfl).2
    have e7 := ((hdep 7 _ rfl rfl).1 7 rfl).trans f7
    have f6 := (hdep 6 _ rfl rfl).2
    have e35 := ((hdep 6 _ rfl rfl).1 35 rfl).trans f6
    obtain ⟨w2, hy, hS2⟩ := y_sst (P := Tryz.prog) (t := 94) (x := .tmp 7) (y := .tmp 35) hS' 0 rfl e7 e35 rfl (Nat.le_of_ble_eq_true rfl) (by simp [Go.Value.cells, Go.Value.oneCell'])
    exact rule_y hy ⟨⟨undef, none, 0, (a 7).b, (a 6).x⟩, rfl, ⟨rfl, rfl⟩, hS2⟩
  · intro a σ' w' hσ hA' hS'
    have h7 := hA' 7 _ rfl
    have h8 := hA' 8 _ rfl
    rw [frameOf (σ := σ') [(0, ptrAt (pb b) 0), (3, ptrAt (pb b3) 0), (6, str x), (7, ptrAt (pb (a 8).b) 0)] ⟨(hσ 0 (notDst rfl)).trans rfl, (hσ 3 (notDst rfl)).trans rfl, (hσ 6 (notDst rfl)).trans rfl, (h7.1 7 rfl).trans (h7.2.trans (by rw [h8.2.1])), trivial⟩]
    repeat clear hS
    have hS : Sep w0 w' (pVw (a 6).x.1 (strs p.put) :: pOwn (a 8).b [int p.ends, .slice (a 8).x.1 p.put.length (a 8).x.2, .bool p.drop] :: pOwn b3 [int tk, str nm, str tx, .slice tp te.length tc, .bool tf, int ta, int tb, int td] :: pOwn b [int dp, .slice qo op.length co, .slice qg gh.length cg, .bool fr, .bool ov] :: pVw qo (strs op) :: pVw qg (strs gh) :: cs) := hS'
    rw [h8.2.2] at hS
    generalize (a 8).b = b4 at *
    generalize (a 6).x = x7 at *
    clear hA' hσ hS' h7 h8 hopen
    obtain ⟨q7, c7⟩ := x7
    obtain ⟨ends, put, drop, err⟩ := p
    dsimp only at hpl hpe hS ⊢
    replace hS : Sep w0 w' ((StM.mk ⟨op, gh, fr⟩ qo co qg cg dp ov).plots b (pVw q7 (strs put) :: pOwn b4 [int ends, .slice q7 put.length c7, .bool drop] :: pOwn b3 [int tk, str nm, str tx, .slice tp te.length tc, .bool tf, int ta, int tb, int td] :: cs)) := hS.sel 6 [3, 4, 5, 0, 1, 2]
    have ho4 := hS.own 4 rfl
    refine sgo ?_
    cases drop with
    | true =>
      rw [if_pos rfl]
      refine sgo ?_
      (first | refine fp1 (.inl rfl) rfl rfl ?_ | refine fp2 (.inl rfl) rfl rfl rfl ?_ | refine fp3 (.inl rfl) rfl rfl rfl rfl ?_ | refine fp0 (.inr rfl) rfl ?_ | refine fp0 (.inl rfl) rfl ?_ | refine fp1 (.inr rfl) rfl rfl ?_)
      exact ⟨⟨⟨op, gh, fr⟩, qo, co, qg, cg, dp, ov⟩, [], none, 0, none, 0, rfl, rfl, by simp, ⟨rfl, rfl, rfl, hco, hcg⟩, ((hS.nilRow 5).nilRow 4).sel 8 [2, 3, 4, 0, 1]⟩
    | false =>
      rw [if_neg Bool.noConfusion]
      refine sgo ?_
      refine wlpure (sDeep_ok _ b ends q7 put.length c7 false 0 hpe (by dsimp only; omega) (by omega) (by decide) (by dsimp only; omega) w0 _ _ hS) fun w5 hf5 => ?_
      replace hS := hS.grow hf5
      clear ho4
      dsimp only
      refine sgo ?_
      by_cases hd : dp < op.length - ends + put.length
      · rw [if_pos hd]
        refine wcyes ?_ (ht := decide_eq_true hd)
        replace hS : Sep w0 w5 ([] ++ (pOwn b3 [int tk, str nm, str tx, .slice tp te.length tc, .bool tf, int ta, int tb, int td] :: (StM.mk ⟨op, gh, fr⟩ qo co qg cg dp ov).plots b cs)) := hS.sel 6 [5, 0, 1, 2]
        refine sgo ?_
        refine wcplanb (b := []) (t10P b3 ta tb td) ⟨.nilIface, none, 0, 0, ()⟩ hS rfl (fun j oj a a' hj he hd h => ?_) ⟨?_, ?_, ?_, ?_, ?_, ?_, trivial⟩ ?_
        · have hjl : j < 6 := (List.getElem?_eq_some_iff.1 hj).1
          match j, hjl with
          | 0, _ | 1, _ | 2, _ | 3, _ | 4, _ => first | (simp only [t10P] at h ⊢; rw [← he]; exact h) | exact h
          | 5, _ => simp only [t10P] at h ⊢; rw [← he, ← hd 3 (by cases hj; rfl)]; exact h
        · intro a σ' w' rest hσ hdep hS'   -- 0: fieldAddr; pieces:  ..
          have e3 : σ' 3 = ptrAt (pb b3) 0 := (hσ 3 (notDstB rfl)).trans rfl
          exact rule_y (y_field e3 ⟨_, rfl⟩ (by decide)) ⟨⟨ptrAt (pb b3) 5, none, 0, 0, ()⟩, rfl, rfl, hS'⟩
        · intro a σ' w' rest hσ hdep hS'   -- 1: load; pieces:  ..
          have f0 := (hdep 0 _ rfl rfl).2
          have e41 := ((hdep 0 _ rfl rfl).1 41 rfl).trans f0
          exact rule_y (y_loada e41 (Sep.sgv hS' 0 rfl) (Nat.le_of_ble_eq_true rfl) ⟨_, rfl⟩) ⟨⟨.agg ⟨[int ta, int tb, int td]⟩, none, 0, 0, ()⟩, rfl, rfl, hS'⟩
        · intro a σ' w' rest hσ hdep hS'   -- 2: build; pieces:  ..
          have f1 := (hdep 1 _ rfl rfl).2
          have e42 := ((hdep 1 _ rfl rfl).1 42 rfl).trans f1
          exact rule_y (y_build (cells := [int ta, int tb, int td, int 8, str []]) (by rw [bm2 (x := .tmp 42) (y := .const (.int .i64 8)) (u := int 8) e42 rfl]; simp [fillL, setSeg, Value.cells] <;> rfl)) ⟨⟨.agg ⟨[int ta, int tb, int td, int 8, str []]⟩, none, 0, 0, ()⟩, rfl, rfl, hS'⟩
        · intro a σ' w' rest hσ hdep hS'   -- 3: buildSlice; pieces:  ..
          have f2 := (hdep 2 _ rfl rfl).2
          have e43 := ((hdep 2 _ rfl rfl).1 43 rfl).trans f2
          obtain ⟨b', w2, hy, hS2⟩ := y_bs1 (P := Tryz.prog) (t := 24) (d := some 44) (x := .tmp 43) (vs := [int ta, int tb, int td, int 8, str []]) (size := 5) hS' e43 rfl rfl (by decide) (by decide)
          exact rule_y hy ⟨⟨.slice (pb b') 1 1, none, 0, b', ()⟩, rfl, rfl, hS2⟩
        · intro a σ' w' rest hσ hdep hS'   -- 4: assign; pieces:  ..
          exact rule_e [] trivial ⟨⟨.slice none 0 0, none, 0, 0, ()⟩, rfl, rfl, hS'⟩
        · intro a σ' w' rest hσ hdep hS'   -- 5: assign; pieces:  ..
          have f3 := (hdep 3 _ rfl rfl).2
          have e44 := ((hdep 3 _ rfl rfl).1 44 rfl).trans f3
          exact rule_e [(44, _)] ⟨e44, trivial⟩ ⟨⟨.slice (pb (a 3).b) 1 1, none, 0, (a 3).b, ()⟩, rfl, ⟨rfl, rfl⟩, hS'⟩
        · intro a σ' w' hσ hA' hS'
          have h6 := hA' 4 _ rfl
          have h7 := hA' 5 _ rfl
          rw [frameOf (σ := σ') [(4, .slice none 0 0), (5, .slice (pb (a 3).b) 1 1)] ⟨(h6.1 4 rfl).trans h6.2, (h7.1 5 rfl).trans (h7.2.1.trans (by rw [h7.2.2])), trivial⟩]
          repeat clear hS
          have hS : Sep w0 w' (pOwn (a 3).b (Fi.mk ta tb td 8 []).cells :: pOwn b3 [int tk, str nm, str tx, .slice tp te.length tc, .bool tf, int ta, int tb, int td] :: (StM.mk ⟨op, gh, fr⟩ qo co qg cg dp ov).plots b cs) := hS'
          generalize (a 3).b = b5 at *
          clear hA' hσ hS' h6 h7
          refine sgo ?_
          (first | refine fp1 (.inl rfl) rfl rfl ?_ | refine fp2 (.inl rfl) rfl rfl rfl ?_ | refine fp3 (.inl rfl) rfl rfl rfl rfl ?_ | refine fp0 (.inr rfl) rfl ?_ | refine fp0 (.inl rfl) rfl ?_ | refine fp1 (.inr rfl) rfl rfl ?_)
          refine ⟨⟨⟨op, gh, fr⟩, qo, co, qg, cg, dp, ov⟩, [], none, 0, pb b5, 1, rfl, rfl, by simp, ⟨rfl, rfl, rfl, hco, hcg⟩, ?_⟩
          exact ((hS.asRow (size := 5) (n := 1) rfl (by decide)).nilRow 4).sel 6 [3, 4, 5, 0, 1]
      · rw [if_neg hd]
        refine wcno ?_ (ht := decide_eq_false hd)
        have ho4 := hS.own 4 rfl
        have ho3 := hS.own 5 rfl
        refine sgo ?_
        refine wlcall (sReady_ok _ b ⟨tk, nm, tx, te, tf, ta, tb, td⟩ ⟨ends, put, false, err⟩ q7 c7 hpe hco hcg (by dsimp only; omega) w0 _ _ hS) ?_
        clear ho3 ho4
        repeat clear hS
        rintro _ w7 ⟨m4, ql, cl, qf, cf, rfl, hto4, hS⟩
        have hel : (followE (⟨op, gh, fr⟩ : BaS) ⟨ends, put, false, err⟩).length ≤ 2048 := by
          rw [(follow_len _ _ hpe).1]; dsimp only; omega
        have hms : ∀ x_1 ∈ (followE (⟨op, gh, fr⟩ : BaS) ⟨ends, put, false, err⟩).map mk0 ++ [mk0 (txE x)], Im [] w0 x_1.p (x_1.e.attrs.flatMap At.cells) := by
          intro x1 hx1
          rcases List.mem_append.1 hx1 with hx1 | hx1
          · exact mk0_im w0 _ (follow_attrs _ _) x1 hx1
          · obtain rfl := List.mem_singleton.1 hx1
            exact Im.nil _ _ _
        have hev : evs ((followE (⟨op, gh, fr⟩ : BaS) ⟨ends, put, false, err⟩).map mk0 ++ [mk0 (txE x)]) = followE (⟨op, gh, fr⟩ : BaS) ⟨ends, put, false, err⟩ ++ [txE x] := by rw [evs_snoc, mk0_evs]; rfl
        have hml : ((followE (⟨op, gh, fr⟩ : BaS) ⟨ends, put, false, err⟩).map mk0 ++ [mk0 (txE x)]).length = (followE (⟨op, gh, fr⟩ : BaS) ⟨ends, put, false, err⟩).length + 1 := by simp
        generalize followE (⟨op, gh, fr⟩ : BaS) ⟨ends, put, false, err⟩ = E at *
        generalize followF ⟨tk, nm, tx, te, tf, ta, tb, td⟩ ⟨ends, put, false, err⟩ = FF at *
        obtain ⟨s4, qo4, co4, qg4, cg4, dp4, ov4⟩ := m4
        replace hS : Sep w0 w7 (pOwn b [int dp4, .slice qo4 s4.op.length co4, .slice qg4 s4.gh.length cg4, .bool s4.fr, .bool ov4] :: pVw qo4 (strs s4.op) :: pVw qg4 (strs s4.gh) :: pRow 4 ql E.length cl ((E.map mk0).flatMap EvM.cells) :: pRow 5 qf FF.length cf (FF.flatMap Fi.cells) :: cs) := hS.sel 8 [0, 1, 2, 3, 4]
        refine sgo ?_
        refine sst_bool hS 0 fun w8 hS => ?_
        refine sgo ?_
        refine wlbuild (cells := [int 0, str [], str x, .slice none 0 0]) ?_
        refine sgo ?_
        refine sb1a (vs := (mk0 (txE x)).cells) hS fun b9 w9 hS => ?_
        refine sgo ?_
        refine sapp hS 4 (hS.own 0 rfl).sg (fun q2 c2 w10 hS => ?_) (h1 := ev_one _ _ _)
        rw [evs_flat] at hS
        refine sgo ?_
        (first | refine fp1 (.inl rfl) rfl rfl ?_ | refine fp2 (.inl rfl) rfl rfl rfl ?_ | refine fp3 (.inl rfl) rfl rfl rfl rfl ?_ | refine fp0 (.inr rfl) rfl ?_ | refine fp0 (.inl rfl) rfl ?_ | refine fp1 (.inr rfl) rfl rfl ?_)
        refine ⟨⟨⟨s4.op, s4.gh, false⟩, qo4, co4, qg4, cg4, dp4, ov4⟩, E.map mk0 ++ [mk0 (txE x)], q2, c2, qf, cf, (by rw [hml]; rfl), hev, hms, ⟨?_, hto4.dp, hto4.ov, hto4.co, hto4.cg⟩, ?_⟩
        · dsimp only; rw [← hto4.s]
        · rw [hml]; exact hS.sel 6 [1, 2, 3, 4, 5]
end Go.Proofs.YtmnnffenijjpcaaGreatDoor

/-
  Package sieveref17: end, Take, End.
-/
set_option linter.unusedSimpArgs false
set_option linter.unusedVariables false
set_option linter.unnecessarySimpa false
namespace Go.Proofs.YtmnnffenijjpcaaGreatDoor
open Go Go.Sv Go.RowKit

def e9P (b3 : Nat) (ta tb td : Int) (nm : Nm) : PlanB Unit where
  pl k d := match k with
    | 5 => [pOwn d.b [int ta, int tb, int td, int 7, str nm]]
    | _ => []
  con k := match k with
    | _ => none
  base k := match k with
    | _ => []
  fact k a := match k with
    | 0 => (a 0).v = ptrAt (pb b3) 5
    | 1 => (a 1).v = .agg ⟨[int ta, int tb, int td]⟩
    | 2 => (a 2).v = ptrAt (pb b3) 1
    | 3 => (a 3).v = str nm
    | 4 => (a 4).v = .agg ⟨[int ta, int tb, int td, int 7, str nm]⟩
    | 5 => (a 5).v = .slice (pb (a 5).b) 1 1
    | 6 => (a 6).v = .slice none 0 0
    | 7 => (a 7).v = .slice (pb (a 7).b) 1 1 ∧ (a 7).b = (a 5).b
    | _ => True
set_option maxHeartbeats 4000000 in
theorem sEndT_ok (m : StM) (b : Nat) (t : Tok) (tp : Option Addr) (tc : Nat) (hr : rightR m.s.op = true) (hco : m.s.op.length ≤ m.co) (hcg : m.s.gh.length ≤ m.cg) (hb1 : m.s.op.length ≤ 1024) (hb4 : m.s.gh.length ≤ 4194304) (hnl : t.name.length ≤ 1048576)
    (w0 w : World) (cs : List Plot) (hS : Sep w0 w (m.plots b cs)) :
    CallsR Tryz.prog 39 #[ptrAt (pb b) 0, .agg ⟨t.cells tp tc⟩] w (SaR m b (endB m.s t) w0 cs) := by
  obtain ⟨⟨op, gh, fr⟩, qo, co, qg, cg, dp, ov⟩ := m
  obtain ⟨tk, nm, tx, te, tf, ta, tb, td⟩ := t
  dsimp only at hr hco hcg hb1 hb4 hnl
  have hsl := strs_len gh
  refine enter (l := [ptrAt (pb b) 0, .agg ⟨Tok.cells ⟨tk, nm, tx, te, tf, ta, tb, td⟩ tp tc⟩]) Tryz.func39 rfl Tryz.ntmps39 (by kernel_rfl) rfl ?_
  refine WC_seq ?_
  refine WC_region ?_
  refine sbox (v := .agg ⟨Tok.cells ⟨tk, nm, tx, te, tf, ta, tb, td⟩ tp tc⟩) hS fun b3 w1 hS => ?_
  replace hS : Sep w0 w1 (pOwn b3 [int tk, str nm, str tx, .slice tp te.length tc, .bool tf, int ta, int tb, int td] :: pOwn b [int dp, .slice qo op.length co, .slice qg gh.length cg, .bool fr, .bool ov] :: pVw qo (strs op) :: pVw qg (strs gh) :: cs) := hS
  refine sgo ?_
  refine wcloop (X := Nat) (fun k => [(0, ptrAt (pb b) 0), (3, ptrAt (pb b3) 0), (6, int ((k : Int) - 1))])
    (fun k wr => k ≤ gh.length ∧ lastK nm gh gh.length = lastK nm gh k ∧ Sep w0 wr (pOwn b3 [int tk, str nm, str tx, .slice tp te.length tc, .bool tf, int ta, int tb, int td] :: pOwn b [int dp, .slice qo op.length co, .slice qg gh.length cg, .bool fr, .bool ov] :: pVw qo (strs op) :: pVw qg (strs gh) :: cs))
    (fun k => k) gh.length ⟨rfl, rfl, rfl, trivial⟩ ⟨Nat.le_refl _, rfl, hS⟩ ?_
  repeat clear hS
  rintro k wr ρ ⟨hk, hlk, hS⟩
  unfold endB
  dsimp only
  cases k with
  | succ k =>
    have i1 : (((k + 1 : Nat) : Int) - 1) = (k : Int) := by omega
    rw [i1]
    have hy0 : gh[k]? = some gh[k] := List.getElem?_eq_getElem (by omega)
    have hgd : gh.getD k [] = gh[k] := by rw [List.getD_eq_getElem?_getD, hy0]; rfl
    rw [lastK, hgd] at hlk
    generalize gh[k] = y at *
    have hy := strs_at hy0
    have hqs : ∃ a, qg = some a := (hS.vw 3 rfl).some (by omega)
    refine sgo ?_
    refine wcyes ?_ (ht := decide_eq_true (by omega))
    refine sgo ?_
    (first | refine WC_seq ?_ | skip); refine wcdraw ?_
    refine qgo ?_
    refine QL_nil ?_; intro wd hwd
    replace hS := hS.grow hwd
    refine sgo ?_
    by_cases hyn : y = nm
    · rw [if_pos hyn] at hlk
      rw [hlk]
      refine wcyes ?_ (ht := decide_eq_true hyn)
      refine sgo ?_
      refine sst_slice hS 1 fun w6 hS => ?_
      refine sgo ?_
      (first | refine fp1 (.inl rfl) rfl rfl ?_ | refine fp2 (.inl rfl) rfl rfl rfl ?_ | refine fp3 (.inl rfl) rfl rfl rfl rfl ?_ | refine fp0 (.inr rfl) rfl ?_ | refine fp0 (.inl rfl) rfl ?_ | refine fp1 (.inr rfl) rfl rfl ?_)
      have e : (gh.take k).length = k := by rw [List.length_take]; omega
      have ec : (strs gh).take k = strs (gh.take k) := by unfold strs; rw [List.map_take]
      refine ⟨⟨⟨op, gh.take k, fr⟩, qo, co, qg, cg, dp, ov⟩, [], none, 0, none, 0, rfl, rfl, by simp, ⟨rfl, rfl, rfl, hco, by dsimp only; omega⟩, ?_⟩
      have h := (((hS.cutVw 3 rfl k).tail).nilRow 5).nilRow 4
      simp only [StM.plots, StM.cells, e]
      rw [← ec]
      exact h.sel 5 [2, 3, 4, 0, 1]
    · rw [if_neg hyn] at hlk
      refine wcno ?_ (ht := decide_eq_false hyn)
      refine sgo ?_
      exact ⟨k, ⟨rfl, rfl, rfl, trivial⟩, ⟨by omega, hlk, hS⟩, (by (try dsimp only); omega)⟩
  | zero =>
    rw [show lastK nm gh gh.length = none from hlk]
    dsimp only
    have hIo := hS.vw 2 rfl
    refine sgo ?_
    (first | refine WC_seq ?_ | skip); refine wcdraw ?_
    refine qgo ?_
    refine qlcallp (fun w' hw' => refEnd_ok op qo co nm hr hnl (by omega) w' (hIo.frm hw')) ?_
    refine qgo ?_
    refine QL_nil ?_; intro wd hwd
    replace hS := hS.grow hwd
    have hle := endR_le op nm
    generalize endR op nm = e at *
    obtain ⟨e, e2⟩ := e
    dsimp only at hle ⊢
    refine sgo ?_
    by_cases he : e = 0
    · rw [if_pos he]
      refine wcyes ?_ (ht := decide_eq_true (by omega))
      replace hS : Sep w0 wd ([] ++ (pOwn b3 [int tk, str nm, str tx, .slice tp te.length tc, .bool tf, int ta, int tb, int td] :: (StM.mk ⟨op, gh, fr⟩ qo co qg cg dp ov).plots b cs)) := hS
      refine sgo ?_
      refine wcplanb (b := []) (e9P b3 ta tb td nm) ⟨.nilIface, none, 0, 0, ()⟩ hS rfl (fun j oj a a' hj he hd h => ?_) ⟨?_, ?_, ?_, ?_, ?_, ?_, ?_, ?_, trivial⟩ ?_
      · have hjl : j < 8 := (List.getElem?_eq_some_iff.1 hj).1
        match j, hjl with
        | 0, _ | 1, _ | 2, _ | 3, _ | 4, _ | 5, _ | 6, _ => first | (simp only [e9P] at h ⊢; rw [← he]; exact h) | exact h
        | 7, _ => simp only [e9P] at h ⊢; rw [← he, ← hd 5 (by cases hj; rfl)]; exact h
      · intro a σ' w' rest hσ hdep hS'   -- 0: fieldAddr; pieces:  ..
        have e3 : σ' 3 = ptrAt (pb b3) 0 := (hσ 3 (notDstB rfl)).trans rfl
        exact rule_y (y_field e3 ⟨_, rfl⟩ (by decide)) ⟨⟨ptrAt (pb b3) 5, none, 0, 0, ()⟩, rfl, rfl, hS'⟩
      · intro a σ' w' rest hσ hdep hS'   -- 1: load; pieces:  ..
        have f0 := (hdep 0 _ rfl rfl).2
        have e46 := ((hdep 0 _ rfl rfl).1 46 rfl).trans f0
        exact rule_y (y_loada e46 (Sep.sgv hS' 0 rfl) (Nat.le_of_ble_eq_true rfl) ⟨_, rfl⟩) ⟨⟨.agg ⟨[int ta, int tb, int td]⟩, none, 0, 0, ()⟩, rfl, rfl, hS'⟩
      · intro a σ' w' rest hσ hdep hS'   -- 2: fieldAddr; pieces:  ..
        have e3 : σ' 3 = ptrAt (pb b3) 0 := (hσ 3 (notDstB rfl)).trans rfl
        exact rule_y (y_field e3 ⟨_, rfl⟩ (by decide)) ⟨⟨ptrAt (pb b3) 1, none, 0, 0, ()⟩, rfl, rfl, hS'⟩
      · intro a σ' w' rest hσ hdep hS'   -- 3: load; pieces:  ..
        have f2 := (hdep 2 _ rfl rfl).2
        have e48 := ((hdep 2 _ rfl rfl).1 48 rfl).trans f2
        exact rule_y (y_load e48 (Sep.sgv hS' 0 rfl) rfl) ⟨⟨str nm, none, 0, 0, ()⟩, rfl, rfl, hS'⟩
      · intro a σ' w' rest hσ hdep hS'   -- 4: build; pieces:  ..
        have f1 := (hdep 1 _ rfl rfl).2
        have e47 := ((hdep 1 _ rfl rfl).1 47 rfl).trans f1
        have f3 := (hdep 3 _ rfl rfl).2
        have e49 := ((hdep 3 _ rfl rfl).1 49 rfl).trans f3
        exact rule_y (y_build (cells := [int ta, int tb, int td, int 7, str nm]) (by rw [bm3 (x := .tmp 47) (y := .const (.int .i64 7)) (z := .tmp 49) (u := int 7) e47 rfl e49]; simp [fillL, setSeg, Value.cells] <;> rfl)) ⟨⟨.agg ⟨[int ta, int tb, int td, int 7, str nm]⟩, none, 0, 0, ()⟩, rfl, rfl, hS'⟩
      · intro a σ' w' rest hσ hdep hS'   -- 5: buildSlice; pieces:  ..
        have f4 := (hdep 4 _ rfl rfl).2
        have e50 := ((hdep 4 _ rfl rfl).1 50 rfl).trans f4
        obtain ⟨b', w2, hy, hS2⟩ := y_bs1 (P := Tryz.prog) (t := 24) (d := some 51) (x := .tmp 50) (vs := [int ta, int tb, int td, int 7, str nm]) (size := 5) hS' e50 rfl rfl (by decide) (by decide)
        exact rule_y hy ⟨⟨.slice (pb b') 1 1, none, 0, b', ()⟩, rfl, rfl, hS2⟩
      · intro a σ' w' rest hσ hdep hS'   -- 6: assign; pieces:  ..
        exact rule_e [] trivial ⟨⟨.slice none 0 0, none, 0, 0, ()⟩, rfl, rfl, hS'⟩
      · intro a σ' w' rest hσ hdep hS'   -- 7: assign; pieces:  ..
        have f5 := (hdep 5 _ rfl rfl).2
        have e51 := ((hdep 5 _ rfl rfl).1 51 rfl).trans f5
        exact rule_e [(51, _)] ⟨e51, trivial⟩ ⟨⟨.slice (pb (a 5).b) 1 1, none, 0, (a 5).b, ()⟩, rfl, ⟨rfl, rfl⟩, hS'⟩
      · intro a σ' w' hσ hA' hS'
        have h6 := hA' 6 _ rfl
        have h7 := hA' 7 _ rfl
        rw [frameOf (σ := σ') [(4, .slice none 0 0), (5, .slice (pb (a 5).b) 1 1)] ⟨(h6.1 4 rfl).trans h6.2, (h7.1 5 rfl).trans (h7.2.1.trans (by rw [h7.2.2])), trivial⟩]
        repeat clear hS
        have hS : Sep w0 w' (pOwn (a 5).b (Fi.mk ta tb td 7 nm).cells :: pOwn b3 [int tk, str nm, str tx, .slice tp te.length tc, .bool tf, int ta, int tb, int td] :: (StM.mk ⟨op, gh, fr⟩ qo co qg cg dp ov).plots b cs) := hS'
        generalize (a 5).b = b5 at *
        clear hA' hσ hS' h6 h7
        refine sgo ?_
        (first | refine fp1 (.inl rfl) rfl rfl ?_ | refine fp2 (.inl rfl) rfl rfl rfl ?_ | refine fp3 (.inl rfl) rfl rfl rfl rfl ?_ | refine fp0 (.inr rfl) rfl ?_ | refine fp0 (.inl rfl) rfl ?_ | refine fp1 (.inr rfl) rfl rfl ?_)
        refine ⟨⟨⟨op, gh, fr⟩, qo, co, qg, cg, dp, ov⟩, [], none, 0, pb b5, 1, rfl, rfl, by simp, ⟨rfl, rfl, rfl, hco, hcg⟩, ?_⟩
        exact ((hS.asRow (size := 5) (n := 1) rfl (by decide)).nilRow 4).sel 6 [3, 4, 5, 0, 1]
    · rw [if_neg he]
      refine wcno ?_ (ht := decide_eq_false (by omega))
      refine sgo ?_
      refine wlcall (sClose_ok ⟨⟨op, gh, fr⟩, qo, co, qg, cg, dp, ov⟩ b e hle hco hcg (by dsimp only; omega) w0 _ _ hS.tail) ?_
      repeat clear hS
      rintro _ w5 ⟨m4, q, c, rfl, hto4, hS⟩
      refine sgo ?_
      (first | refine fp1 (.inl rfl) rfl rfl ?_ | refine fp2 (.inl rfl) rfl rfl rfl ?_ | refine fp3 (.inl rfl) rfl rfl rfl rfl ?_ | refine fp0 (.inr rfl) rfl ?_ | refine fp0 (.inl rfl) rfl ?_ | refine fp1 (.inr rfl) rfl rfl ?_)
      have hl : ((offN op e).map closeM).length = e := by rw [List.length_map, offN_len _ _ hle]
      refine ⟨m4, (offN op e).map closeM, q, c, none, 0, by rw [hl]; rfl, ?_, ?_, hto4, ?_⟩
      · rw [mk0_close, mk0_evs]
      · rw [mk0_close]
        exact mk0_im w0 _ fun x hx => by obtain ⟨n, _, rfl⟩ := List.mem_map.1 hx; rfl
      · rw [hl]
        exact (hS.nilRow 5).sel 5 [1, 2, 3, 4, 0]
set_option maxHeartbeats 4000000 in
theorem sTake_ok (m : StM) (b : Nat) (t : Tok) (tp : Option Addr) (tc : Nat) (hs : t.small) (hr : rightR m.s.op = true) (hco : m.s.op.length ≤ m.co) (hcg : m.s.gh.length ≤ m.cg) (hb1 : m.s.op.length ≤ 1024) (hb4 : m.s.gh.length ≤ 4194304) (hdp : m.dp ≤ 1024)
    (w0 w : World) (cs : List Plot) (hi : Im [] w0 tp (t.attrs.flatMap At.cells)) (hS : Sep w0 w (m.plots b cs)) :
    CallsR Tryz.prog 16 #[ptrAt (pb b) 0, .agg ⟨t.cells tp tc⟩] w (SaR m b (takeB m.dp m.s t) w0 cs) := by
  have hstart := fun (w' : World) cs' h => sStart_ok m b t tp tc hr hco hcg hb1 hb4 hdp w0 w' cs' hi h
  have htext := fun (w' : World) cs' h => sText_ok m b t tp tc hr hco hcg hb1 hdp hs.text w0 w' cs' h
  have hend := fun (w' : World) cs' h => sEndT_ok m b t tp tc hr hco hcg hb1 hb4 hs.name w0 w' cs' h
  unfold takeB
  obtain ⟨tk, nm, tx, te, tf, ta, tb, td⟩ := t
  dsimp only at hstart htext hend ⊢
  clear hs hi
  refine enter (l := [ptrAt (pb b) 0, .agg ⟨Tok.cells ⟨tk, nm, tx, te, tf, ta, tb, td⟩ tp tc⟩]) Tryz.func16 rfl Tryz.ntmps16 (by kernel_rfl) rfl ?_
  refine WC_seq ?_
  refine WC_region ?_
  refine sbox (v := .agg ⟨Tok.cells ⟨tk, nm, tx, te, tf, ta, tb, td⟩ tp tc⟩) hS fun b3 w1 hS => ?_
  replace hS : Sep w0 w1 (m.plots b (pOwn b3 [int tk, str nm, str tx, .slice tp te.length tc, .bool tf, int ta, int tb, int td] :: cs)) := hS.sel 4 [1, 2, 3, 0]
  have ho3 := hS.own 3 rfl
  refine sgo ?_
  by_cases h1 : tk = 1
  · rw [if_pos h1]
    refine wcyes ?_ (ht := decide_eq_true h1)
    refine sgo ?_
    refine wlcall (hstart _ _ hS) ?_
    rintro _ w6 ⟨m', es, q, c, qf, cf, rfl, k1, k2, k3, hS⟩
    refine sgo ?_
    (first | refine fp1 (.inl rfl) rfl rfl ?_ | refine fp2 (.inl rfl) rfl rfl rfl ?_ | refine fp3 (.inl rfl) rfl rfl rfl rfl ?_ | refine fp0 (.inr rfl) rfl ?_ | refine fp0 (.inl rfl) rfl ?_ | refine fp1 (.inr rfl) rfl rfl ?_)
    exact ⟨m', es, q, c, qf, cf, rfl, k1, k2, k3, hS.sel 6 [0, 1, 2, 3, 4]⟩
  rw [if_neg h1]
  refine wcno ?_ (ht := decide_eq_false h1)
  refine sgo ?_
  by_cases h2 : tk = 0
  · rw [if_pos h2]
    refine wcyes ?_ (ht := decide_eq_true h2)
    refine sgo ?_
    refine wlcall (htext _ _ hS) ?_
    rintro _ w6 ⟨m', es, q, c, qf, cf, rfl, k1, k2, k3, hS⟩
    refine sgo ?_
    (first | refine fp1 (.inl rfl) rfl rfl ?_ | refine fp2 (.inl rfl) rfl rfl rfl ?_ | refine fp3 (.inl rfl) rfl rfl rfl rfl ?_ | refine fp0 (.inr rfl) rfl ?_ | refine fp0 (.inl rfl) rfl ?_ | refine fp1 (.inr rfl) rfl rfl ?_)
    exact ⟨m', es, q, c, qf, cf, rfl, k1, k2, k3, hS.sel 6 [0, 1, 2, 3, 4]⟩
  rw [if_neg h2]
  refine wcno ?_ (ht := decide_eq_false h2)
  refine sgo ?_
  by_cases h3 : tk = 2
  · rw [if_pos h3]
    refine wcyes ?_ (ht := decide_eq_true h3)
    refine sgo ?_
    refine wlcall (hend _ _ hS) ?_
    rintro _ w6 ⟨m', es, q, c, qf, cf, rfl, k1, k2, k3, hS⟩
    refine sgo ?_
    (first | refine fp1 (.inl rfl) rfl rfl ?_ | refine fp2 (.inl rfl) rfl rfl rfl ?_ | refine fp3 (.inl rfl) rfl rfl rfl rfl ?_ | refine fp0 (.inr rfl) rfl ?_ | refine fp0 (.inl rfl) rfl ?_ | refine fp1 (.inr rfl) rfl rfl ?_)
    exact ⟨m', es, q, c, qf, cf, rfl, k1, k2, k3, hS.sel 6 [0, 1, 2, 3, 4]⟩
  rw [if_neg h3]
  refine wcno ?_ (ht := decide_eq_false h3)
  refine sgo ?_
  (first | refine fp1 (.inl rfl) rfl rfl ?_ | refine fp2 (.inl rfl) rfl rfl rfl ?_ | refine fp3 (.inl rfl) rfl rfl rfl rfl ?_ | refine fp0 (.inr rfl) rfl ?_ | refine fp0 (.inl rfl) rfl ?_ | refine fp1 (.inr rfl) rfl rfl ?_)
  exact ⟨m, [], none, 0, none, 0, rfl, rfl, by simp, ⟨rfl, rfl, rfl, hco, hcg⟩, ((hS.nilRow 5).nilRow 4).sel 6 [2, 3, 4, 0, 1]⟩
set_option maxHeartbeats 4000000 in
theorem sEnd_ok (m : StM) (b : Nat) (hco : m.s.op.length ≤ m.co) (hcg : m.s.gh.length ≤ m.cg) (hb1 : m.s.op.length ≤ 1024) (w0 w : World) (cs : List Plot) (hS : Sep w0 w (m.plots b cs)) :
    CallsR Tryz.prog 22 #[ptrAt (pb b) 0] w fun v w' => ∃ (q : Option Addr) (c : Nat), v = .slice q m.s.op.length c ∧ Sep w0 w' (pRow 4 q m.s.op.length c (((offN m.s.op m.s.op.length).map closeM).flatMap EvM.cells) :: cs) := by
  obtain ⟨⟨op, gh, fr⟩, qo, co, qg, cg, dp, ov⟩ := m
  dsimp only at hco hcg hb1
  replace hS : Sep w0 w (pOwn b [int dp, .slice qo op.length co, .slice qg gh.length cg, .bool fr, .bool ov] :: pVw qo (strs op) :: pVw qg (strs gh) :: cs) := hS
  refine enter (l := [ptrAt (pb b) 0]) Tryz.func22 rfl Tryz.ntmps22 (by kernel_rfl) rfl ?_
  refine sgo ?_
  refine sst_bool hS 0 fun w2 hS => ?_
  refine sgo ?_
  refine wlcall (sClose_ok ⟨⟨op, gh, fr⟩, qo, co, qg, cg, dp, true⟩ b op.length (Nat.le_refl _) hco hcg (by dsimp only; omega) w0 _ _ hS) ?_
  repeat clear hS
  rintro _ w5 ⟨m4, q, c, rfl, hto4, hS⟩
  refine sgo ?_
  (first | refine fp1 (.inl rfl) rfl rfl ?_ | refine fp2 (.inl rfl) rfl rfl rfl ?_ | refine fp3 (.inl rfl) rfl rfl rfl rfl ?_ | refine fp0 (.inr rfl) rfl ?_ | refine fp0 (.inl rfl) rfl ?_ | refine fp1 (.inr rfl) rfl rfl ?_)
  exact ⟨q, c, rfl, hS.sel 4 [3]⟩
end Go.Proofs.YtmnnffenijjpcaaGreatDoor

/-
  Package sieveref17: All.
-/
set_option linter.unusedSimpArgs false
set_option linter.unusedVariables false
set_option linter.unnecessarySimpa false
namespace Go.Proofs.YtmnnffenijjpcaaGreatDoor
open Go Go.Sv Go.RowKit

/-- what the reference's All gives -/
def slP (k : Nat) (l : List Tok) (w0 : World) (cs : List Plot) (v : Value) (w' : World) : Prop :=
  ∃ (es : List EvM) (q : Option Addr) (c : Nat) (fq : Option Addr) (fc : Nat), v = .tuple #[.slice q es.length c, .slice fq (allF k l).length fc] ∧ evs es = allE k l ∧ (∀ e ∈ es, Im [] w0 e.p (e.e.attrs.flatMap At.cells)) ∧ Sep w0 w' (pRow 4 q es.length c (es.flatMap EvM.cells) :: pRow 5 fq (allF k l).length fc ((allF k l).flatMap Fi.cells) :: cs)
end Go.Proofs.YtmnnffenijjpcaaGreatDoor

/-
  sievelaw17: start, text, end, lives; BalanceNames.
-/
set_option linter.unusedSimpArgs false
set_option linter.unusedVariables false
set_option linter.unnecessarySimpa false
namespace Go.Proofs.YtmnnffenijjpcaaGreatDoor
open Go Go.Sv Go.RowKit

def tkN (k : Int) (n : Nm) : Tok := ⟨k, n, [], [], false, 0, 0, 0⟩
def tkT (x : Nm) : Tok := ⟨0, [], x, [], false, 0, 0, 0⟩
set_option maxHeartbeats 1000000 in
theorem start17_ok (n : Nm) (w : World) : PureC Tryz.prog 21 #[str n] w (.agg ⟨(tkN 1 n).cells none 0⟩) := by
  have hS := Sep.start w
  refine enter (l := [str n]) Tryz.func21 rfl Tryz.ntmps21 (by kernel_rfl) rfl ?_
  refine sgo ?_
  refine salloc hS fun b w1 hS => ?_
  refine sgo ?_
  refine wlbuild (cells := [int 1, str n, str [], .slice none 0 0, .bool false, int 0, int 0, int 0]) ?_
  refine ssta (vs := [int 1, str n, str [], .slice none 0 0, .bool false, int 0, int 0, int 0]) hS 0 fun w2 hS => ?_
  replace hS : Sep w w2 [pOwn b [int 1, str n, str [], .slice none 0 0, .bool false, int 0, int 0, int 0]] := hS
  refine sgo ?_
  exact fpc (.inl rfl) rfl rfl rfl (hS.own 0 rfl) ⟨rfl, hS.frm⟩
set_option maxHeartbeats 1000000 in
theorem end17_ok (n : Nm) (w : World) : PureC Tryz.prog 28 #[str n] w (.agg ⟨(tkN 2 n).cells none 0⟩) := by
  have hS := Sep.start w
  refine enter (l := [str n]) Tryz.func28 rfl Tryz.ntmps28 (by kernel_rfl) rfl ?_
  refine sgo ?_
  refine salloc hS fun b w1 hS => ?_
  refine sgo ?_
  refine wlbuild (cells := [int 2, str n, str [], .slice none 0 0, .bool false, int 0, int 0, int 0]) ?_
  refine ssta (vs := [int 2, str n, str [], .slice none 0 0, .bool false, int 0, int 0, int 0]) hS 0 fun w2 hS => ?_
  replace hS : Sep w w2 [pOwn b [int 2, str n, str [], .slice none 0 0, .bool false, int 0, int 0, int 0]] := hS
  refine sgo ?_
  exact fpc (.inl rfl) rfl rfl rfl (hS.own 0 rfl) ⟨rfl, hS.frm⟩
set_option maxHeartbeats 1000000 in
theorem text17_ok (x : Nm) (w : World) : PureC Tryz.prog 27 #[str x] w (.agg ⟨(tkT x).cells none 0⟩) := by
  have hS := Sep.start w
  refine enter (l := [str x]) Tryz.func27 rfl Tryz.ntmps27 (by kernel_rfl) rfl ?_
  refine sgo ?_
  refine salloc hS fun b w1 hS => ?_
  refine sgo ?_
  refine wlbuild (cells := [int 0, str [], str x, .slice none 0 0, .bool false, int 0, int 0, int 0]) ?_
  refine ssta (vs := [int 0, str [], str x, .slice none 0 0, .bool false, int 0, int 0, int 0]) hS 0 fun w2 hS => ?_
  replace hS : Sep w w2 [pOwn b [int 0, str [], str x, .slice none 0 0, .bool false, int 0, int 0, int 0]] := hS
  refine sgo ?_
  exact fpc (.inl rfl) rfl rfl rfl (hS.own 0 rfl) ⟨rfl, hS.frm⟩
def exB : List TokM := [⟨tkN 1 [98], none, 0⟩, ⟨tkT [120], none, 0⟩, ⟨tkN 1 [105], none, 0⟩, ⟨tkN 2 [98], none, 0⟩, ⟨tkN 1 nLi, none, 0⟩]
def exE : List Ev := [opE [98] [], txE [120], opE [105] [], closeE [105], closeE [98], opE nUl [], opE nLi [], closeE nLi, closeE nUl]
theorem exB_all : allE 9 (toks exB) = exE ∧ allF 9 (toks exB) = [⟨0, 0, 0, 9, nUl⟩] ∧ (toks exB).all mayR = true := by decide +kernel
theorem exB_small : ∀ m ∈ exB, m.t.small := by
  intro m hm
  simp only [exB, List.mem_cons, List.not_mem_nil, or_false] at hm
  rcases hm with rfl | rfl | rfl | rfl | rfl <;> exact ⟨by decide, by decide, by decide, fun x hx => nomatch hx⟩
set_option maxHeartbeats 4000000 in
theorem lives17_ok (w : World) (hA : Asc w) : PureC Tryz.prog 8 #[] w (.bool true) := by
  refine enter (l := []) Tryz.func8 rfl Tryz.ntmps8 (by kernel_rfl) rfl ?_
  have hS := Sep.start w
  refine sgo ?_
  refine wlpure (start17_ok [98] _) fun w1 hf1 => ?_
  replace hS := hS.grow hf1
  refine sgo ?_
  refine wlpure (text17_ok [120] _) fun w2 hf2 => ?_
  replace hS := hS.grow hf2
  refine sgo ?_
  refine wlpure (start17_ok [105] _) fun w3 hf3 => ?_
  replace hS := hS.grow hf3
  refine sgo ?_
  refine wlpure (end17_ok [98] _) fun w4 hf4 => ?_
  replace hS := hS.grow hf4
  refine sgo ?_
  refine wlpure (start17_ok nLi _) fun w5 hf5 => ?_
  replace hS := hS.grow hf5
  refine sgo ?_
  refine wlbsr (vs := exB.map TokM.cells) 5 (fun b w6 hb ho hf => ?_) (h1 := fun v hv => by obtain ⟨m, _, rfl⟩ := List.mem_map.1 hv; rfl)
  replace hS : Sep w w6 [pOwn b (exB.flatMap TokM.cells)] := hS.push hf ho (by simpa [pOwn] using hb)
  refine sgo ?_
  have hT : Toks w6 (pb b) exB := ⟨(hS.own 0 rfl).im (by simp), fun m hm => by
    simp only [exB, List.mem_cons, List.not_mem_nil, or_false] at hm
    rcases hm with rfl | rfl | rfl | rfl | rfl <;> exact Im.nil _ _ _⟩
  have hF6 := hS.frm
  refine wlcall (bAll_ok 9 (by decide) exB (pb b) 5 (by decide) exB_small w6 w6 [] (hA.frm hF6) hT (Sep.start w6)) ?_
  repeat clear hS
  rintro _ w7 ⟨-, hgood⟩
  obtain ⟨es, q, c, fq, fc, rfl, hev, hS⟩ := hgood exB_all.2.2
  rw [exB_all.1] at hev
  rw [exB_all.2.1] at hS ⊢
  have hl : es.length = 9 := by rw [← evs_len, hev]; rfl
  have hat : ∀ (i : Nat) (e : Ev), exE[i]? = some e → ∃ m : EvM, es[i]? = some m ∧ m.e = e := by
    intro i e h
    rw [← hev, evs, List.getElem?_map] at h
    cases hm : es[i]? with
    | none => rw [hm] at h; cases h
    | some m => rw [hm] at h; injection h with h; exact ⟨m, rfl, h⟩
  obtain ⟨m3, h3, e3⟩ := hat 3 _ rfl
  obtain ⟨m5, h5, e5⟩ := hat 5 _ rfl
  have g13 : (es.flatMap EvM.cells)[3 * 4 + 1]? = some (str [105]) := by
    rw [fm_get EvM.len es 3 1 (by decide), h3]; show some (str m3.e.name) = _; rw [e3]; rfl
  have g12 : (es.flatMap EvM.cells)[3 * 4]? = some (int 2) := by
    rw [show 3 * 4 = 3 * 4 + 0 from rfl, fm_get EvM.len es 3 0 (by decide), h3]; show some (int m3.e.kind) = _; rw [e3]; rfl
  have g21 : (es.flatMap EvM.cells)[5 * 4 + 1]? = some (str nUl) := by
    rw [fm_get EvM.len es 5 1 (by decide), h5]; show some (str m5.e.name) = _; rw [e5]; rfl
  have hfl := fm_len EvM.len es
  have hqs : ∃ a, q = some a := (hS.row 0 rfl).sg.some (by omega)
  have hfs : ∃ a, fq = some a := (hS.row 2 rfl).sg.some (by decide)
  have hF7 := hF6.trans hS.frm
  generalize es.flatMap EvM.cells = F at *
  rw [hl] at hS ⊢
  clear hat h3 h5 e3 e5 hev hgood hl hfl
  replace hS : Sep w6 w7 [pRow 4 q 9 c F, pMany (es.map EvM.row), pRow 5 fq 1 fc [int 0, int 0, int 0, int 9, str nUl]] := hS
  refine sgo ?_
  (first | refine fp1 (.inl rfl) rfl rfl ?_ | refine fp2 (.inl rfl) rfl rfl rfl ?_ | refine fp3 (.inl rfl) rfl rfl rfl rfl ?_ | refine fp0 (.inr rfl) rfl ?_ | refine fp0 (.inl rfl) rfl ?_ | refine fp1 (.inr rfl) rfl rfl ?_); refine ⟨?_, by (first | exact Frm.refl _ | assumption | exact Go.Sv.Sep.frm (by assumption) | (refine Frm.trans ?_ (by assumption); first | exact Frm.refl _ | assumption))⟩; (try simp only [realB, rv_true, Nat.reduceBEq, cond_true, cond_false, entG, real_lif, updGL])
  simp [pkb, nUl]
end Go.Proofs.YtmnnffenijjpcaaGreatDoor

/-
  Packages token and sieveref07: Equal, Attr, SameAttrs; sievelaw07: TokenChecks.
-/
set_option linter.unusedSimpArgs false
set_option linter.unusedVariables false
set_option linter.unnecessarySimpa false
namespace Go.Proofs.YtmnnffenijjpcaaGreatDoor
open Go Go.Sv Go.RowKit

def eqR (a b : Tok) : Bool := decide (a.kind = b.kind) && (decide (a.name = b.name) && (decide (a.text = b.text) && (decide (a.self = b.self) && decide (a.attrs = b.attrs))))
theorem at_get0 {es : List At} {i : Nat} {x : At} (hx : es[i]? = some x) : (es.flatMap At.cells)[i * 2]? = some (str x.n) := by
  have := fm_get At.len es i 0 (by omega)
  rw [Nat.add_zero, hx] at this
  exact this
theorem at_get1 {es : List At} {i : Nat} {x : At} (hx : es[i]? = some x) : (es.flatMap At.cells)[i * 2 + 1]? = some (str x.v) := by
  have := fm_get At.len es i 1 (by omega)
  rw [hx] at this
  exact this
theorem at_ext {x y : At} : x = y ↔ x.n = y.n ∧ x.v = y.v := by cases x; cases y; simp
theorem take_eq_succ {α : Type} {l l' : List α} {i : Nat} {x : α} (h : l.take i = l'.take i) (hx : l[i]? = some x) (hy : l'[i]? = some x) : l.take (i + 1) = l'.take (i + 1) := by
  rw [List.take_add_one, List.take_add_one, h, hx, hy]

set_option maxHeartbeats 2000000 in
theorem sameAttrs_ok (es fs : List At) (p q : Option Addr) (c c' : Nat) (hb : es.length ≤ 1048576) (hb' : fs.length ≤ 1048576) (w : World) (hi : Im [] w p (es.flatMap At.cells)) (hj : Im [] w q (fs.flatMap At.cells)) :
    PureC Tryz.prog 29 #[.slice p es.length c, .slice q fs.length c'] w (.bool (decide (es = fs))) := by
  have hl1 := fm_len At.len es
  have hl2 := fm_len At.len fs
  refine enter (l := [.slice p es.length c, .slice q fs.length c']) Tryz.func29 rfl Tryz.ntmps29 (by kernel_rfl) rfl ?_
  refine sgo ?_
  (show WC _ _ _ _ _ _ _; first | refine WC_dec rfl (fun hc => ?_) (fun hc => ?_) | refine WC_cond rfl (fun hc => ?_) (fun hc => ?_))
  · refine sgo ?_
    (first | refine fp1 (.inl rfl) rfl rfl ?_ | refine fp2 (.inl rfl) rfl rfl rfl ?_ | refine fp3 (.inl rfl) rfl rfl rfl rfl ?_ | refine fp0 (.inr rfl) rfl ?_ | refine fp0 (.inl rfl) rfl ?_ | refine fp1 (.inr rfl) rfl rfl ?_); refine ⟨?_, by (first | exact Frm.refl _ | assumption | exact Go.Sv.Sep.frm (by assumption) | (refine Frm.trans ?_ (by assumption); first | exact Frm.refl _ | assumption))⟩; (try simp only [realB, rv_true, Nat.reduceBEq, cond_true, cond_false, entG, real_lif, updGL])
    rw [decide_eq_false]
    rintro rfl
    exact hc rfl
  have hle : es.length = fs.length := by
    have : ¬ ((es.length : Int) ≠ fs.length) := hc
    omega
  clear hc
  refine sgo ?_
  refine wcloop (X := Nat) (fun i => [(0, .slice p es.length c), (1, .slice q fs.length c'), (12, int es.length), (13, int i)]) (fun i wr => i ≤ es.length ∧ es.take i = fs.take i ∧ Frm w wr) (fun i => es.length - i) 0 ⟨rfl, rfl, rfl, rfl, trivial⟩ ⟨by omega, rfl, Frm.refl _⟩ ?_
  rintro i wr ρ ⟨hil, htk, hf⟩
  have hIr := hi.frm hf
  have hJr := hj.frm hf
  refine sgo ?_
  (show WC _ _ _ _ _ _ _; first | refine WC_dec rfl (fun hc => ?_) (fun hc => ?_) | refine WC_cond rfl (fun hc => ?_) (fun hc => ?_))
  · have hlt : i < es.length := by omega
    have hx : es[i]? = some es[i] := List.getElem?_eq_getElem hlt
    have hy : fs[i]? = some fs[i] := List.getElem?_eq_getElem (by omega)
    generalize es[i] = x at *
    generalize fs[i] = y at *
    have g0 := at_get0 hx
    have g1 := at_get1 hx
    have k0 := at_get0 hy
    have k1 := at_get1 hy
    refine sgo ?_
    (first | refine WC_seq ?_ | skip); refine wcdraw ?_
    refine qgo ?_
    refine QL_nil ?_; intro wd hwd
    have hfd := hf.trans hwd
    refine sgo ?_
    (show WC _ _ _ _ _ _ _; first | refine WC_dec rfl (fun hc => ?_) (fun hc => ?_) | refine WC_cond rfl (fun hc => ?_) (fun hc => ?_))
    · refine sgo ?_
      (first | refine fp1 (.inl rfl) rfl rfl ?_ | refine fp2 (.inl rfl) rfl rfl rfl ?_ | refine fp3 (.inl rfl) rfl rfl rfl rfl ?_ | refine fp0 (.inr rfl) rfl ?_ | refine fp0 (.inl rfl) rfl ?_ | refine fp1 (.inr rfl) rfl rfl ?_); refine ⟨?_, by (first | exact Frm.refl _ | assumption | exact Go.Sv.Sep.frm (by assumption) | (refine Frm.trans ?_ (by assumption); first | exact Frm.refl _ | assumption))⟩; (try simp only [realB, rv_true, Nat.reduceBEq, cond_true, cond_false, entG, real_lif, updGL])
      rw [decide_eq_false]
      rintro rfl
      rw [hx] at hy
      obtain rfl := Option.some.inj hy
      revert hc; simp [pkb]
    · refine sgo ?_
      refine ⟨i + 1, ⟨rfl, rfl, rfl, rfl, trivial⟩, ⟨by omega, ?_, hfd⟩, by omega⟩
      have hxy : x = y := by
        rw [at_ext]
        revert hc; simp [pkb]
      rw [← hxy] at hy
      exact take_eq_succ htk hx hy
  · refine sgo ?_
    (first | refine fp1 (.inl rfl) rfl rfl ?_ | refine fp2 (.inl rfl) rfl rfl rfl ?_ | refine fp3 (.inl rfl) rfl rfl rfl rfl ?_ | refine fp0 (.inr rfl) rfl ?_ | refine fp0 (.inl rfl) rfl ?_ | refine fp1 (.inr rfl) rfl rfl ?_); refine ⟨?_, by (first | exact Frm.refl _ | assumption | exact Go.Sv.Sep.frm (by assumption) | (refine Frm.trans ?_ (by assumption); first | exact Frm.refl _ | assumption))⟩; (try simp only [realB, rv_true, Nat.reduceBEq, cond_true, cond_false, entG, real_lif, updGL])
    rw [decide_eq_true]
    rwa [List.take_of_length_le (by omega), List.take_of_length_le (by omega)] at htk















































































































def attrR (es : List At) (n : List UInt8) : Option At := es.find? fun x => decide (x.n = n)
def attrV (o : Option At) : Value := match o with | some x => .tuple #[str x.v, .bool true] | none => .tuple #[str [], .bool false]










































end Go.Proofs.YtmnnffenijjpcaaGreatDoor

/-
  Structs compared whose first field is a struct; sievelaw17: same, findings, names (of what is the same).
-/
set_option linter.unusedSimpArgs false
set_option linter.unusedVariables false
set_option linter.unnecessarySimpa false
namespace Go.Sv
open Go Go.RowKit
/-- a struct whose first field is a plain struct of n cells, the others one cell each -/
class NestS (P : Program) (t : TypeId) (t0 : outParam TypeId) (n : outParam Nat) (ds : outParam (List TypeDesc)) : Prop where
  ok : ∃ f fs, P.underlying t = some (.struct (List.toArray (f :: fs))) ∧ f.name ≠ "_" ∧ f.offset = 0 ∧ f.type = t0 ∧ plainB P fs n ds = true ∧ P.stoodInHeld t = false ∧ P.eqGuardType P.depth t = false
section
variable {P : Program} {w : World} {t t' t0 : TypeId} {n : Nat} {ds ds0 : List TypeDesc} {xs ys : List Value} {r r0 : Bool} {zv : Value} {bytes : Nat}
theorem run_partA [ha : Agg P t0 true] [hi : Inf P t0 zv n bytes] (xs : List Value) : (part t0 ⟨xs⟩ 0).run P w = .ok (.agg ⟨xs.take n⟩) w := by
  simp only [part, Sem.run_bind, run_isAgg (P := P) (t := t0), Result.andThen_ok, if_pos, run_sizeOf (P := P) (t := t0), Sem.run_pure]
  congr 2
  apply Array.ext'
  simp
theorem run_eqN [h : NestS P t t0 n ds] [hp : PlainS P t0 ds0] [ha : Agg P t0 true] [hi : Inf P t0 zv n bytes] (h0 : eqL ds0 (xs.take n) (ys.take n) = some r0) (h1 : eqL ds (xs.drop n) (ys.drop n) = some r) (k : Nat) : (Op.equalIn (k + 3) t (.agg ⟨xs⟩) (.agg ⟨ys⟩)).run P w = .ok (r0 && r) w := by
  obtain ⟨f, fs, e1, e2, e3, e4, e5, e6, _⟩ := h.ok
  have hf : P.fieldsOf t = (List.toArray (f :: fs)) := by simp [Program.fieldsOf, e1]
  rw [run_equalIn_struct w (k + 2) t _ _ (by rw [hf]; exact e1) e6, hf]
  show (Op.eqFields (k + 2) _ _ (f :: fs)).run P w = _
  simp only [Op.eqFields, if_pos e2, e3, e4, Sem.run_bind, run_partA (P := P) (t0 := t0) (n := n), Result.andThen_ok, run_eqS h0]
  have := eqFields_plain (P := P) (w := w) (k + 1) ⟨xs⟩ ⟨ys⟩ fs n ds _ _ r e5 rfl rfl h1
  cases r0 with
  | true => simp [this]
  | false => simp
variable {σ : Env} {d : Option Tmp} {ty : TypeId} {pos : String} {af : Array Edge} {g : Option (Nat × Bool)} {x y : Operand}
theorem y_aneqN [h : NestS P t t0 n ds] [hp : PlainS P t0 ds0] [ha : Agg P t0 true] [hi : Inf P t0 zv n bytes] (hx : evl σ x = .agg ⟨xs⟩) (hy : evl σ y = .agg ⟨ys⟩) (h0 : eqL ds0 (xs.take n) (ys.take n) = some r0) (h1 : eqL ds (xs.drop n) (ys.drop n) = some r) :
    Y P σ ⟨d, .binOp .neq t x y t', ty, pos, af, g⟩ w (.bool (!(r0 && r))) w := by
  obtain ⟨f, fs, _, _, _, _, _, _, h4⟩ := h.ok
  refine Y.val ?_
  simp only [execOp, hx, hy, Sem.run_bind, run_eqGuard_agg w .neq t x y _ _ h4, Result.andThen_ok, run_neq_struct]
  rw [show (10000 : Nat) = 9997 + 3 from rfl, run_eqN h0 h1]
  rfl
end
end Go.Sv
namespace Go.Proofs.YtmnnffenijjpcaaGreatDoor
open Go Go.Sv Go.RowKit
instance : NestS Tryz.prog 68 31 3 [.int .i64, .string] := ⟨_, _, Tryz.underlying68, by decide, rfl, rfl, by kernel_rfl, by kernel_rfl, by kernel_rfl⟩
set_option maxHeartbeats 2000000 in
theorem names17_ok (l : List Nm) (p q : Option Addr) (c c' : Nat) (hb : l.length ≤ 4194304) (w : World) (hi : Im [] w p (strs l)) (hj : Im [] w q (strs l)) :
    PureC Tryz.prog 17 #[.slice p l.length c, .slice q l.length c'] w (.bool true) := by
  have hl := strs_len l
  have hF := Frm.refl w
  refine enter (l := [.slice p l.length c, .slice q l.length c']) Tryz.func17 rfl Tryz.ntmps17 (by kernel_rfl) rfl ?_
  refine sgo ?_
  refine wcno ?_ (ht := by simp)
  refine sgo ?_
  refine wcloop (X := Nat) (fun i => [(0, .slice p l.length c), (1, .slice q l.length c'), (12, int l.length), (13, int i)]) (fun i wr => i ≤ l.length ∧ Frm w wr) (fun i => l.length - i) 0 ⟨rfl, rfl, rfl, rfl, trivial⟩ ⟨by omega, hF⟩ ?_
  clear hF
  rintro i wr ρ ⟨hil, hF⟩
  have hIr := hi.frm hF
  have hJr := hj.frm hF
  refine sgo ?_
  (show WC _ _ _ _ _ _ _; first | refine WC_dec rfl (fun hc => ?_) (fun hc => ?_) | refine WC_cond rfl (fun hc => ?_) (fun hc => ?_))
  · have hlt : i < l.length := by omega
    clear hc
    have hx0 : l[i]? = some l[i] := List.getElem?_eq_getElem hlt
    generalize l[i] = x at *
    have hx := strs_at hx0
    refine sgo ?_
    (first | refine WC_seq ?_ | skip); refine wcdraw ?_
    refine qgo ?_
    refine QL_nil ?_; intro wd hwd
    refine sgo ?_
    refine wcno ?_ (ht := by simp)
    refine sgo ?_
    exact ⟨i + 1, ⟨rfl, rfl, rfl, rfl, trivial⟩, ⟨hlt, hF.trans hwd⟩, by omega⟩
  · refine sgo ?_
    (first | refine fp1 (.inl rfl) rfl rfl ?_ | refine fp2 (.inl rfl) rfl rfl rfl ?_ | refine fp3 (.inl rfl) rfl rfl rfl rfl ?_ | refine fp0 (.inr rfl) rfl ?_ | refine fp0 (.inl rfl) rfl ?_ | refine fp1 (.inr rfl) rfl rfl ?_); refine ⟨?_, by (first | exact Frm.refl _ | assumption | exact Go.Sv.Sep.frm (by assumption) | (refine Frm.trans ?_ (by assumption); first | exact Frm.refl _ | assumption))⟩; (try simp only [realB, rv_true, Nat.reduceBEq, cond_true, cond_false, entG, real_lif, updGL])
set_option maxHeartbeats 2000000 in
theorem findings17_ok (l : List Fi) (p q : Option Addr) (c c' : Nat) (hb : l.length ≤ 33554432) (w : World) (hi : Im [] w p (l.flatMap Fi.cells)) (hj : Im [] w q (l.flatMap Fi.cells)) :
    PureC Tryz.prog 11 #[.slice p l.length c, .slice q l.length c'] w (.bool true) := by
  have hl := fm_len Fi.len l
  have hF := Frm.refl w
  refine enter (l := [.slice p l.length c, .slice q l.length c']) Tryz.func11 rfl Tryz.ntmps11 (by kernel_rfl) rfl ?_
  refine sgo ?_
  refine wcno ?_ (ht := by simp)
  refine sgo ?_
  refine wcloop (X := Nat) (fun i => [(0, .slice p l.length c), (1, .slice q l.length c'), (12, int l.length), (13, int i)]) (fun i wr => i ≤ l.length ∧ Frm w wr) (fun i => l.length - i) 0 ⟨rfl, rfl, rfl, rfl, trivial⟩ ⟨by omega, hF⟩ ?_
  clear hF
  rintro i wr ρ ⟨hil, hF⟩
  have hIr := hi.frm hF
  have hJr := hj.frm hF
  refine sgo ?_
  (show WC _ _ _ _ _ _ _; first | refine WC_dec rfl (fun hc => ?_) (fun hc => ?_) | refine WC_cond rfl (fun hc => ?_) (fun hc => ?_))
  · have hlt : i < l.length := by omega
    clear hc
    have hx0 : l[i]? = some l[i] := List.getElem?_eq_getElem hlt
    generalize l[i] = x at *
    have hseg := fm_seg Fi.len l hx0
    obtain ⟨fa, fb, fd, fy, fn⟩ := x
    have hps : ∃ a, p = some a := hIr.some (by omega)
    have hqs : ∃ a, q = some a := hJr.some (by omega)
    refine sgo ?_
    (first | refine WC_seq ?_ | skip); refine wcdraw ?_
    refine qgo ?_
    rw [hseg]
    refine ql ?_ (YQ.ofY fun w hw => y_aneqN (xs := [int fa, int fb, int fd, int fy, str fn]) (ys := [int fa, int fb, int fd, int fy, str fn]) rfl rfl rfl rfl)
    refine qgo ?_
    refine QL_nil ?_; intro wd hwd
    refine sgo ?_
    refine wcno ?_ (ht := by simp)
    refine sgo ?_
    exact ⟨i + 1, ⟨rfl, rfl, rfl, rfl, trivial⟩, ⟨hlt, hF.trans hwd⟩, by omega⟩
  · refine sgo ?_
    (first | refine fp1 (.inl rfl) rfl rfl ?_ | refine fp2 (.inl rfl) rfl rfl rfl ?_ | refine fp3 (.inl rfl) rfl rfl rfl rfl ?_ | refine fp0 (.inr rfl) rfl ?_ | refine fp0 (.inl rfl) rfl ?_ | refine fp1 (.inr rfl) rfl rfl ?_); refine ⟨?_, by (first | exact Frm.refl _ | assumption | exact Go.Sv.Sep.frm (by assumption) | (refine Frm.trans ?_ (by assumption); first | exact Frm.refl _ | assumption))⟩; (try simp only [realB, rv_true, Nat.reduceBEq, cond_true, cond_false, entG, real_lif, updGL])
theorem ev_get {ms : List EvM} {i : Nat} {m : EvM} (h : ms[i]? = some m) (j : Nat) (hj : j < 4) : (ms.flatMap EvM.cells)[i * 4 + j]? = m.cells[j]? := by
  have := fm_get EvM.len ms i j hj
  rw [h] at this
  exact this
set_option maxHeartbeats 4000000 in
theorem same17_ok (ms ns : List EvM) (p q : Option Addr) (c c' : Nat) (hb : ms.length ≤ 33554432) (he : evs ms = evs ns) (hsm : ∀ m ∈ ms, m.e.attrs.length ≤ 1048576) (w : World) (hi : Evs w p ms) (hj : Evs w q ns) :
    PureC Tryz.prog 10 #[.slice p ms.length c, .slice q ns.length c'] w (.bool true) := by
  have hl1 := fm_len EvM.len ms
  have hl2 := fm_len EvM.len ns
  have hle : ns.length = ms.length := by rw [← evs_len, ← he, evs_len]
  have hF := Frm.refl w
  refine enter (l := [.slice p ms.length c, .slice q ns.length c']) Tryz.func10 rfl Tryz.ntmps10 (by kernel_rfl) rfl ?_
  refine sgo ?_
  refine wcno ?_ (ht := by simp [hle])
  refine sgo ?_
  refine wcloop (X := Nat) (fun i => [(0, .slice p ms.length c), (1, .slice q ns.length c'), (12, int ms.length), (13, int i)]) (fun i wr => i ≤ ms.length ∧ Frm w wr) (fun i => ms.length - i) 0 ⟨rfl, rfl, rfl, rfl, trivial⟩ ⟨by omega, hF⟩ ?_
  clear hF
  rintro i wr ρ ⟨hil, hF⟩
  have hIr := hi.im.frm hF
  have hJr := hj.im.frm hF
  refine sgo ?_
  (show WC _ _ _ _ _ _ _; first | refine WC_dec rfl (fun hc => ?_) (fun hc => ?_) | refine WC_cond rfl (fun hc => ?_) (fun hc => ?_))
  · have hlt : i < ms.length := by omega
    clear hc
    have hx0 : ms[i]? = some ms[i] := List.getElem?_eq_getElem hlt
    have hy0 : ns[i]? = some ns[i] := List.getElem?_eq_getElem (by omega)
    have hxy : ms[i].e = ns[i].e := by
      have h1 := congrArg (·[i]?) he
      simp only [evs, List.getElem?_map, hx0, hy0, Option.map_some, Option.some.injEq] at h1
      exact h1
    have hat := (hi.each _ (List.getElem_mem hlt)).frm hF
    have hbt := (hj.each _ (List.getElem_mem (show i < ns.length by omega))).frm hF
    have hal := hsm _ (List.getElem_mem hlt)
    generalize ms[i] = m at *
    generalize ns[i] = n at *
    obtain ⟨⟨kd, nm, tx, es⟩, mp, mc⟩ := m
    obtain ⟨en, np, nc⟩ := n
    dsimp only at hxy hat hbt hal
    subst hxy
    dsimp only at hbt
    have g0 : (ms.flatMap EvM.cells)[i * 4]? = some (int kd) := ev_get hx0 0 (by decide)
    have g1 : (ms.flatMap EvM.cells)[i * 4 + 1]? = some (str nm) := ev_get hx0 1 (by decide)
    have g2 : (ms.flatMap EvM.cells)[i * 4 + 2]? = some (str tx) := ev_get hx0 2 (by decide)
    have g3 : (ms.flatMap EvM.cells)[i * 4 + 3]? = some (.slice mp es.length mc) := ev_get hx0 3 (by decide)
    have k0 : (ns.flatMap EvM.cells)[i * 4]? = some (int kd) := ev_get hy0 0 (by decide)
    have k1 : (ns.flatMap EvM.cells)[i * 4 + 1]? = some (str nm) := ev_get hy0 1 (by decide)
    have k2 : (ns.flatMap EvM.cells)[i * 4 + 2]? = some (str tx) := ev_get hy0 2 (by decide)
    have k3 : (ns.flatMap EvM.cells)[i * 4 + 3]? = some (.slice np es.length nc) := ev_get hy0 3 (by decide)
    have hps : ∃ a, p = some a := hIr.some (by omega)
    have hqs : ∃ a, q = some a := hJr.some (by omega)
    generalize ms.flatMap EvM.cells = F1 at *
    generalize ns.flatMap EvM.cells = F2 at *
    have hsame := fun w' (hw : Frm wr w') => sameAttrs_ok es es mp np mc nc hal hal w' (hat.frm hw) (hbt.frm hw)
    refine sgo ?_
    (first | refine WC_seq ?_ | skip); refine wcdraw ?_
    refine qgo ?_
    refine qlcallgp (vals := [.slice mp es.length mc, .slice np es.length nc]) (fun _ w' hw => hsame w' hw) ?_
    refine qgo ?_
    refine QL_nil ?_; intro wd hwd
    refine sgo ?_
    refine wcno ?_ (ht := by simp [pkb])
    refine sgo ?_
    exact ⟨i + 1, ⟨rfl, rfl, rfl, rfl, trivial⟩, ⟨hlt, hF.trans hwd⟩, by omega⟩
  · refine sgo ?_
    (first | refine fp1 (.inl rfl) rfl rfl ?_ | refine fp2 (.inl rfl) rfl rfl rfl ?_ | refine fp3 (.inl rfl) rfl rfl rfl rfl ?_ | refine fp0 (.inr rfl) rfl ?_ | refine fp0 (.inl rfl) rfl ?_ | refine fp1 (.inr rfl) rfl rfl ?_); refine ⟨?_, by (first | exact Frm.refl _ | assumption | exact Go.Sv.Sep.frm (by assumption) | (refine Frm.trans ?_ (by assumption); first | exact Frm.refl _ | assumption))⟩; (try simp only [realB, rv_true, Nat.reduceBEq, cond_true, cond_false, entG, real_lif, updGL])
end Go.Proofs.YtmnnffenijjpcaaGreatDoor

/-
  sievelaw17: BalanceAll.
-/
set_option linter.unusedSimpArgs false
set_option linter.unusedVariables false
set_option linter.unnecessarySimpa false
namespace Go.Proofs.YtmnnffenijjpcaaGreatDoor
open Go Go.Sv Go.RowKit

def AllX (d : Int) (ms : List TokM) (w : World) (v : Value) (w' : World) : Prop :=
  ∃ (es : List EvM) (q : Option Addr) (c : Nat) (fl : List Fi) (fq : Option Addr) (fc : Nat), v = .tuple #[.slice q es.length c, .slice fq fl.length fc, int (allC d (toks ms))] ∧ (allC d (toks ms) ≠ 0 → es = [] ∧ fl = []) ∧ (allC d (toks ms) = 0 → evs es = allE d.toNat (toks ms) ∧ fl = allF d.toNat (toks ms)) ∧
    Sep w w' [pRow 4 q es.length c (es.flatMap EvM.cells), pMany (es.map EvM.row), pRow 5 fq fl.length fc (fl.flatMap Fi.cells)]
end Go.Proofs.YtmnnffenijjpcaaGreatDoor

