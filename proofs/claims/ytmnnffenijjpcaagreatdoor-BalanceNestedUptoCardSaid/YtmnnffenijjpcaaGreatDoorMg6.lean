/-
  Our texts SvRtB, SvRtC, SvInR, SvRtD, SvRtE, SvRtF, SvRtG, SvBaA, SvBaM, SvGc, SvBaC, SvVal, SvBaB, SvBaD, SvBaE, SvBaF, joined.
-/
import Derived.Test.YtmnnffenijjpcaaGreatDoorMg5
/-
  Package sieveref16: unblocked, inner.
-/
set_option linter.unusedSimpArgs false
set_option linter.unusedVariables false
set_option linter.unnecessarySimpa false
namespace Go.Proofs.YtmnnffenijjpcaaGreatDoor
open Go Go.Sv Go.RowKit

/-! ## the names in texts -/
def cCells : Nm := [116, 100, 32, 116, 104, 32, 99, 97, 112, 116, 105, 111, 110]
def cWalls : Nm := cCells ++ [32, 116, 97, 98, 108, 101]
def cGroups : Nm := [116, 104, 101, 97, 100, 32, 116, 98, 111, 100, 121, 32, 116, 102, 111, 111, 116]
def cLists : Nm := [117, 108, 32, 111, 108, 32, 109, 101, 110, 117]
def cHeads : Nm := [104, 49, 32, 104, 50, 32, 104, 51, 32, 104, 52, 32, 104, 53, 32, 104, 54]
theorem is_mem {e : Nm} {l : List Nm} (h : fieldsR e = l) (n : Nm) : isR n e = decide (n ∈ l) := by unfold isR; rw [h]
theorem is_cells : (fun n => isR n cCells) = isCell := by
  funext n
  rw [is_mem (l := [nTd, nTh, nCaption]) (by decide +kernel)]
  unfold isCell
  rw [Bool.eq_iff_iff]; simp [or_assoc]
theorem is_walls : (fun n => isR n cWalls) = isWall := by
  funext n
  rw [is_mem (l := [nTd, nTh, nCaption, nTable]) (by decide +kernel)]
  unfold isWall isCell
  rw [Bool.eq_iff_iff]; simp [or_assoc]
theorem is_groups : (fun n => isR n cGroups) = isGroup := by
  funext n
  rw [is_mem (l := [nThead, nTbody, nTfoot]) (by decide +kernel)]
  unfold isGroup
  rw [Bool.eq_iff_iff]; simp [or_assoc]
theorem is_lists : (fun n => isR n cLists) = isLst := by
  funext n
  rw [is_mem (l := [nUl, nOl, nMenu]) (by decide +kernel)]
  unfold isLst
  rw [Bool.eq_iff_iff]; simp [or_assoc]
theorem is_one {e : Nm} (h : fieldsR e = [e]) : (fun n => isR n e) = isNm e := by
  funext n
  rw [is_mem h]
  unfold isNm
  rw [Bool.eq_iff_iff]; simp
def unbR (s : List Nm) : List Nm := cutW s (tpm (isNm nP) isWall s)
theorem abv_p (s : List Nm) : abvR (topN (fun n => isR n nP) s) (topN (fun n => isR n cWalls) s) = tpm (isNm nP) isWall s := by
  rw [is_one (by decide +kernel), is_walls]
  refine abv_tpm (fun n hn => ?_) s
  obtain rfl := of_decide_eq_true hn
  decide
theorem cutW_some {s : List Nm} {i : Nat} : cutW s (some i) = s.take i := rfl
set_option maxHeartbeats 2000000 in
theorem refUnb_ok (s : List Nm) (q : Option Addr) (c : Nat) (hcc : s.length ≤ c) (hl : s.length ≤ 4194304) (w : World) (hi : Im [] w q (strs s)) :
    PureC Tryz.prog 52 #[.slice q s.length c] w (.slice q (unbR s).length c) := by
  refine enter (l := [.slice q s.length c]) Tryz.func52 rfl Tryz.ntmps52 (by kernel_rfl) rfl ?_
  refine sgo ?_
  refine wlpure (refAbove_ok s q c nP cWalls (by decide) (by decide) hl _ hi) fun w1 hF => ?_
  rw [abv_p]
  unfold unbR
  cases ho : tpm (isNm nP) isWall s with
  | none =>
    unfold placeV cutW
    refine sgo ?_
    (first | refine fp1 (.inl rfl) rfl rfl ?_ | refine fp2 (.inl rfl) rfl rfl rfl ?_ | refine fp3 (.inl rfl) rfl rfl rfl rfl ?_ | refine fp0 (.inr rfl) rfl ?_ | refine fp0 (.inl rfl) rfl ?_ | refine fp1 (.inr rfl) rfl rfl ?_); refine ⟨?_, by (first | exact Frm.refl _ | assumption | exact Go.Sv.Sep.frm (by assumption) | (refine Frm.trans ?_ (by assumption); first | exact Frm.refl _ | assumption))⟩; (try simp only [realB, rv_true, Nat.reduceBEq, cond_true, cond_false, entG, real_lif, updGL])
  | some i =>
    have hi := cut_len ho
    unfold placeV cutW
    dsimp only
    rw [len_take (by omega)]
    refine sgo ?_
    refine wcyes ?_ (ht := decide_eq_true (by omega))
    refine sgo ?_
    (first | refine fp1 (.inl rfl) rfl rfl ?_ | refine fp2 (.inl rfl) rfl rfl rfl ?_ | refine fp3 (.inl rfl) rfl rfl rfl rfl ?_ | refine fp0 (.inr rfl) rfl ?_ | refine fp0 (.inl rfl) rfl ?_ | refine fp1 (.inr rfl) rfl rfl ?_); refine ⟨?_, by (first | exact Frm.refl _ | assumption | exact Go.Sv.Sep.frm (by assumption) | (refine Frm.trans ?_ (by assumption); first | exact Frm.refl _ | assumption))⟩; (try simp only [realB, rv_true, Nat.reduceBEq, cond_true, cond_false, entG, real_lif, updGL])
/-! ## inner -/
def riK : Nat → List Nm → List Nm
  | 0, s => s
  | k + 1, s => if topR s = nColgroup then riK k s.dropLast else s
def riS (s : List Nm) : List Nm := riK s.length s
theorem riS_nil : riS [] = [] := rfl
theorem riS_snoc (s : List Nm) (x : Nm) : riS (s ++ [x]) = if x = nColgroup then riS s else s ++ [x] := by
  unfold riS
  rw [List.length_append, List.length_singleton]
  simp only [riK]
  rw [topR_snoc, List.dropLast_concat]
theorem innerP_nil : innerP [] = [] := by decide
/-- what inner and place give: what is left, and what is put in -/
def AskV (B : Nat) (q : Option Addr) (c : Nat) (w : World) (x : List Nm × List Nm) (v : Value) (w' : World) : Prop :=
  ∃ q' c', v = .tuple #[.slice q x.1.length c, .slice q' x.2.length c'] ∧ Frm w w' ∧ Im [] w' q' (strs x.2) ∧ Nb B q'
set_option maxHeartbeats 8000000 in
theorem refInner_ok (q : Option Addr) (c : Nat) : ∀ s : List Nm, s.length ≤ c → s.length ≤ 4194304 → ∀ w, Im [] w q (strs s) →
    CallsR Tryz.prog 53 #[.slice q s.length c] w (AskV w.heap.size q c w (riS s, innerP (topR (riS s)))) := by
  refine snoc_ind ?_ ?_
  · intro hcc hl w hi
    rw [riS_nil, topR_nil, innerP_nil]
    refine enter (l := [.slice q ([] : List Nm).length c]) Tryz.func53 rfl Tryz.ntmps53 (by kernel_rfl) rfl ?_
    refine sgo ?_
    (first | refine fp1 (.inl rfl) rfl rfl ?_ | refine fp2 (.inl rfl) rfl rfl rfl ?_ | refine fp3 (.inl rfl) rfl rfl rfl rfl ?_ | refine fp0 (.inr rfl) rfl ?_ | refine fp0 (.inl rfl) rfl ?_ | refine fp1 (.inr rfl) rfl rfl ?_)
    exact ⟨none, 0, rfl, Frm.refl _, Im.nil _ _ _, Nb.none _⟩
  · intro s x ih hcc hl w hi
    have hlen : (s ++ [x]).length = s.length + 1 := by simp
    rw [riS_snoc]
    have hxv : (strs (s ++ [x]))[s.length]? = some (str x) := strs_at (by simp)
    have hps : ∃ a, q = some a := hi.some (by rw [strs_len]; omega)
    have hIm := hi.take s.length
    have hIs : (strs (s ++ [x])).take s.length = strs s := by rw [strs_app, List.take_left' (strs_len s)]
    rw [hIs] at hIm
    have i1 : (((s.length + 1 : Nat) : Int) - 1) = (s.length : Int) := by omega
    have ih := fun w' (hF : Frm w w') => ih (by omega) (by omega) w' (hIm.frm hF)
    clear hIs hIm
    have hsl : (strs (s ++ [x])).length = s.length + 1 := by rw [strs_len, hlen]
    have htop : topR (s ++ [x]) = x := topR_snoc s x
    generalize hy : s ++ [x] = y at *
    have hF0 : Frm w w := Frm.refl w
    have hS := Sep.start w
    have i2 : ((s.length : Nat) : Int).toNat = s.length := by omega
    unfold AskV
    rw [hlen]
    refine enter (l := [.slice q (s.length + 1) c]) Tryz.func53 rfl Tryz.ntmps53 (by kernel_rfl) rfl ?_
    refine sgo ?_
    refine wcno ?_ (ht := decide_eq_false (by omega))
    refine sgo ?_
    rw [i1]
    refine sgo ?_
    by_cases h1 : x = nColgroup
    · subst h1
      rw [if_pos rfl]
      refine sgo ?_
      rw [i1]
      refine sgo ?_
      refine wlcall (ih _ (Frm.refl _)) ?_
      rintro _ w2 ⟨q2, c2, rfl, hF, hI, hN⟩
      refine sgo ?_
      (first | refine fp1 (.inl rfl) rfl rfl ?_ | refine fp2 (.inl rfl) rfl rfl rfl ?_ | refine fp3 (.inl rfl) rfl rfl rfl rfl ?_ | refine fp0 (.inr rfl) rfl ?_ | refine fp0 (.inl rfl) rfl ?_ | refine fp1 (.inr rfl) rfl rfl ?_)
      exact ⟨q2, c2, rfl, hF, hI, hN⟩
    rw [if_neg h1, htop]
    dsimp only
    rw [hlen]
    refine wcno ?_ (ht := decide_eq_false h1)
    refine sgo ?_
    unfold innerP
    by_cases h2 : x = nTable
    · subst h2
      rw [if_pos rfl]
      refine sgo ?_
      refine sbsn hS (strs [nTbody, nTr, nTd]) 3 (fun b2 w2 hS => ?_) (h1 := by simp [strs, Value.cells])
      refine sgo ?_
      (first | refine fp1 (.inl rfl) rfl rfl ?_ | refine fp2 (.inl rfl) rfl rfl rfl ?_ | refine fp3 (.inl rfl) rfl rfl rfl rfl ?_ | refine fp0 (.inr rfl) rfl ?_ | refine fp0 (.inl rfl) rfl ?_ | refine fp1 (.inr rfl) rfl rfl ?_)
      exact ⟨pb b2, 3, rfl, hS.frm, (hS.own 0 rfl).im (by simp), hS.nbo 0 rfl⟩
    rw [if_neg h2]
    refine wcno ?_ (ht := decide_eq_false h2)
    refine sgo ?_
    refine wlpure (refIs_ok x cGroups (by decide) _) fun w3 hF3 => ?_
    replace hS := hS.grow hF3
    rw [show isR x cGroups = isGroup x from congrFun is_groups x]
    cases h3 : isGroup x with
    | true =>
      rw [if_pos rfl]
      refine sgo ?_
      refine sbsn hS (strs [nTr, nTd]) 2 (fun b2 w2 hS => ?_) (h1 := by simp [strs, Value.cells])
      refine sgo ?_
      (first | refine fp1 (.inl rfl) rfl rfl ?_ | refine fp2 (.inl rfl) rfl rfl rfl ?_ | refine fp3 (.inl rfl) rfl rfl rfl rfl ?_ | refine fp0 (.inr rfl) rfl ?_ | refine fp0 (.inl rfl) rfl ?_ | refine fp1 (.inr rfl) rfl rfl ?_)
      exact ⟨pb b2, 2, rfl, hS.frm, (hS.own 0 rfl).im (by simp), hS.nbo 0 rfl⟩
    | false =>
      rw [if_neg Bool.false_ne_true]
      refine sgo ?_
      by_cases h4 : x = nTr
      · subst h4
        rw [if_pos rfl]
        refine sgo ?_
        refine sbsn hS (strs [nTd]) 1 (fun b2 w2 hS => ?_) (h1 := by simp [strs, Value.cells])
        refine sgo ?_
        (first | refine fp1 (.inl rfl) rfl rfl ?_ | refine fp2 (.inl rfl) rfl rfl rfl ?_ | refine fp3 (.inl rfl) rfl rfl rfl rfl ?_ | refine fp0 (.inr rfl) rfl ?_ | refine fp0 (.inl rfl) rfl ?_ | refine fp1 (.inr rfl) rfl rfl ?_)
        exact ⟨pb b2, 1, rfl, hS.frm, (hS.own 0 rfl).im (by simp), hS.nbo 0 rfl⟩
      rw [if_neg h4]
      refine wcno ?_ (ht := decide_eq_false h4)
      refine sgo ?_
      refine wlpure (refIs_ok x cLists (by decide) _) fun w3 hF3 => ?_
      replace hS := hS.grow hF3
      rw [show isR x cLists = isLst x from congrFun is_lists x]
      cases h5 : isLst x with
      | true =>
        rw [if_pos rfl]
        refine sgo ?_
        refine sbsn hS (strs [nLi]) 1 (fun b2 w2 hS => ?_) (h1 := by simp [strs, Value.cells])
        refine sgo ?_
        (first | refine fp1 (.inl rfl) rfl rfl ?_ | refine fp2 (.inl rfl) rfl rfl rfl ?_ | refine fp3 (.inl rfl) rfl rfl rfl rfl ?_ | refine fp0 (.inr rfl) rfl ?_ | refine fp0 (.inl rfl) rfl ?_ | refine fp1 (.inr rfl) rfl rfl ?_)
        exact ⟨pb b2, 1, rfl, hS.frm, (hS.own 0 rfl).im (by simp), hS.nbo 0 rfl⟩
      | false =>
        rw [if_neg Bool.false_ne_true]
        refine sgo ?_
        by_cases h6 : x = nDl
        · subst h6
          rw [if_pos rfl]
          refine sgo ?_
          refine sbsn hS (strs [nDd]) 1 (fun b2 w2 hS => ?_) (h1 := by simp [strs, Value.cells])
          refine sgo ?_
          (first | refine fp1 (.inl rfl) rfl rfl ?_ | refine fp2 (.inl rfl) rfl rfl rfl ?_ | refine fp3 (.inl rfl) rfl rfl rfl rfl ?_ | refine fp0 (.inr rfl) rfl ?_ | refine fp0 (.inl rfl) rfl ?_ | refine fp1 (.inr rfl) rfl rfl ?_)
          exact ⟨pb b2, 1, rfl, hS.frm, (hS.own 0 rfl).im (by simp), hS.nbo 0 rfl⟩
        rw [if_neg h6]
        refine wcno ?_ (ht := decide_eq_false h6)
        refine sgo ?_
        (first | refine fp1 (.inl rfl) rfl rfl ?_ | refine fp2 (.inl rfl) rfl rfl rfl ?_ | refine fp3 (.inl rfl) rfl rfl rfl rfl ?_ | refine fp0 (.inr rfl) rfl ?_ | refine fp0 (.inl rfl) rfl ?_ | refine fp1 (.inr rfl) rfl rfl ?_)
        exact ⟨none, 0, rfl, hS.frm, Im.nil _ _ _, Nb.none _⟩
end Go.Proofs.YtmnnffenijjpcaaGreatDoor

/-
  Package sieveref16: place.
-/
set_option linter.unusedSimpArgs false
set_option linter.unusedVariables false
set_option linter.unnecessarySimpa false
namespace Go.Proofs.YtmnnffenijjpcaaGreatDoor
open Go Go.Sv Go.RowKit

def placeA (is : Nm → Bool) (s table group : List Nm) : List Nm × List Nm :=
  match topN is s with
  | none => (riS (unbR s), innerP (topR (riS (unbR s))) ++ [nTable] ++ table)
  | some i => (s.take (i + 1), if s.getD i [] = nTable then table else if isGroup (s.getD i []) then group else [])
theorem unbR_le (s : List Nm) : (unbR s).length ≤ s.length := cutW_le _ _
theorem unbR_pre (s : List Nm) : ∃ i, unbR s = s.take i := cutW_pre _ _
set_option maxHeartbeats 8000000 in
theorem refPlace_ok (s : List Nm) (q : Option Addr) (c : Nat) (e : Nm) (table group : List Nm) (qt qg : Option Addr) (ct cg : Nat) (he : e.length ≤ 1048576) (hcc : s.length ≤ c) (hl : s.length ≤ 4194304) (htl : table.length ≤ 8) (w : World) (hi : Im [] w q (strs s)) (hit : Im [] w qt (strs table)) (hig : Im [] w qg (strs group)) (B : Nat) (hB : B ≤ w.heap.size) (hNt : Nb B qt) (hNg : Nb B qg) :
    CallsR Tryz.prog 54 #[.slice q s.length c, str e, .slice qt table.length ct, .slice qg group.length cg] w (AskV B q c w (placeA (fun n => isR n e) s table group)) := by
  have hS := Sep.start w
  have hue := unbR_le s
  have hiu : Im [] w q (strs (unbR s)) := by
    obtain ⟨i, h⟩ := unbR_pre s
    rw [h]; exact take_succ_strs hi i
  refine enter (l := [.slice q s.length c, str e, .slice qt table.length ct, .slice qg group.length cg]) Tryz.func54 rfl Tryz.ntmps54 (by kernel_rfl) rfl ?_
  refine sgo ?_
  refine wlpure (refTop_ok s q c e he hl _ hi) fun w1 hf1 => ?_
  replace hS := hS.grow hf1
  unfold placeA
  cases ho : topN (fun n => isR n e) s with
  | none =>
    unfold placeV
    dsimp only
    refine sgo ?_
    refine wlpure (refUnb_ok s q c hcc hl _ (hi.frm hS.frm)) fun w2 hf2 => ?_
    replace hS := hS.grow hf2
    generalize unbR s = u at *
    refine sgo ?_
    refine wlcall (refInner_ok q c u (by omega) (by omega) _ (hiu.frm hS.frm)) ?_
    rintro _ w3 ⟨q3, c3, rfl, hF3, hI3, -⟩
    have hFw := hS.frm.trans hF3
    replace hS := Sep.start w3
    have hpl := innerP_len (topR (riS u))
    unfold AskV
    dsimp only at hI3 ⊢
    generalize innerP (topR (riS u)) = put at *
    have h1l := strs_len put
    have h2l := strs_len table
    refine sgo ?_
    refine sb0 hS fun b5 w5 hS => ?_
    refine sgo ?_
    refine sapp hS 0 (hI3.sep hS).sg (fun q6 c6 w6 hS => ?_) (hl := by omega) (h1 := strs_one put)
    rw [List.nil_append, show 0 + put.length = put.length from Nat.zero_add _] at hS
    rw [show 0 + put.length = put.length from Nat.zero_add _]
    refine sgo ?_
    refine sb1s hS fun b7 w7 hS => ?_
    refine sgo ?_
    refine sapp hS 1 (hS.own 0 rfl).sg fun q8 c8 w8 hS => ?_
    replace hS : Sep w3 w8 [pOwn b7 [str nTable], pRow 1 q8 (put.length + 1) c8 (strs put ++ [str nTable])] := hS
    rw [strs_snoc] at hS
    refine sgo ?_
    refine sapp hS 1 ((hit.frm hFw).frm hS.frm).sg (fun q9 c9 w9 hS => ?_) (hl := by omega) (h1 := strs_one table)
    replace hS : Sep w3 w9 [pOwn b7 [str nTable], pRow 1 q9 (put.length + 1 + table.length) c9 (strs (put ++ [nTable]) ++ strs table)] := hS
    rw [← strs_app] at hS
    have hln : (put ++ [nTable] ++ table).length = put.length + 1 + table.length := by simp only [List.length_append, List.length_singleton]
    rw [hln]
    refine sgo ?_
    (first | refine fp1 (.inl rfl) rfl rfl ?_ | refine fp2 (.inl rfl) rfl rfl rfl ?_ | refine fp3 (.inl rfl) rfl rfl rfl rfl ?_ | refine fp0 (.inr rfl) rfl ?_ | refine fp0 (.inl rfl) rfl ?_ | refine fp1 (.inr rfl) rfl rfl ?_)
    exact ⟨q9, c9, rfl, hFw.trans hS.frm, hS.im 1 rfl, (hS.nbr 1 rfl).mono (Nat.le_trans hB hFw.size)⟩
  | some i =>
    have hlt := topN_lt ho
    obtain ⟨x, hx⟩ : ∃ x, s[i]? = some x := ⟨_, List.getElem?_eq_getElem hlt⟩
    have hgd : s.getD i [] = x := by rw [List.getD_eq_getElem?_getD, hx]; rfl
    unfold placeV AskV
    dsimp only
    rw [hgd, len_take (show i + 1 ≤ s.length by omega)]
    have hit2 : Im [] w q (strs (s.take (i + 1))) := take_succ_strs hi _
    have hxv : (strs (s.take (i + 1)))[i]? = some (str x) := strs_at (by rw [List.getElem?_take_of_lt (by omega)]; exact hx)
    have hps : ∃ a, q = some a := hi.some (by rw [strs_len]; omega)
    have hI2 := hit2.frm hS.frm
    have h2l : (strs (s.take (i + 1))).length = i + 1 := by rw [strs_len, len_take (by omega)]
    generalize strs (s.take (i + 1)) = z at *
    refine sgo ?_
    refine wcno ?_ (ht := decide_eq_false (by omega))
    refine sgo ?_
    by_cases h1 : x = nTable
    · subst h1
      rw [if_pos rfl]
      refine sgo ?_
      (first | refine fp1 (.inl rfl) rfl rfl ?_ | refine fp2 (.inl rfl) rfl rfl rfl ?_ | refine fp3 (.inl rfl) rfl rfl rfl rfl ?_ | refine fp0 (.inr rfl) rfl ?_ | refine fp0 (.inl rfl) rfl ?_ | refine fp1 (.inr rfl) rfl rfl ?_)
      exact ⟨qt, ct, rfl, hS.frm, hit.frm hS.frm, hNt⟩
    rw [if_neg h1]
    refine wcno ?_ (ht := decide_eq_false h1)
    refine sgo ?_
    refine wlpure (refIs_ok x cGroups (by decide) _) fun w3 hF3 => ?_
    replace hS := hS.grow hF3
    rw [show isR x cGroups = isGroup x from congrFun is_groups x]
    cases h3 : isGroup x with
    | true =>
      rw [if_pos rfl]
      refine sgo ?_
      (first | refine fp1 (.inl rfl) rfl rfl ?_ | refine fp2 (.inl rfl) rfl rfl rfl ?_ | refine fp3 (.inl rfl) rfl rfl rfl rfl ?_ | refine fp0 (.inr rfl) rfl ?_ | refine fp0 (.inl rfl) rfl ?_ | refine fp1 (.inr rfl) rfl rfl ?_)
      exact ⟨qg, cg, rfl, hS.frm, hig.frm hS.frm, hNg⟩
    | false =>
      rw [if_neg Bool.false_ne_true]
      refine sgo ?_
      (first | refine fp1 (.inl rfl) rfl rfl ?_ | refine fp2 (.inl rfl) rfl rfl rfl ?_ | refine fp3 (.inl rfl) rfl rfl rfl rfl ?_ | refine fp0 (.inr rfl) rfl ?_ | refine fp0 (.inl rfl) rfl ?_ | refine fp1 (.inr rfl) rfl rfl ?_)
      exact ⟨none, 0, rfl, hS.frm, Im.nil _ _ _, Nb.none _⟩
end Go.Proofs.YtmnnffenijjpcaaGreatDoor

/-
  Package sieveref04: In, of the sets 6 and 15 (and 0).
-/
set_option linter.unusedSimpArgs false
set_option linter.unusedVariables false
set_option linter.unnecessarySimpa false
namespace Go.Proofs.YtmnnffenijjpcaaGreatDoor
open Go Go.Sv Go.RowKit

/-- a set's text -/
def TextIs (k : Nat) (v : Value) : Prop := ∃ T : Nm, v = str T ∧ T.length ≤ 1048576 ∧ fieldsR T = Lib.fields (setT k)
set_option maxHeartbeats 2000000 in
set_option maxRecDepth 100000 in
theorem textR0_ok (w : World) : CallsR Tryz.prog 49 #[int (0 : Nat)] w fun v w' => Frm w w' ∧ TextIs 0 v := by
  refine enter (l := [int (0 : Nat)]) Tryz.func49 rfl Tryz.ntmps49 (by kernel_rfl) rfl ?_
  refine sgo ?_
  (first | refine fp1 (.inl rfl) rfl rfl ?_ | refine fp2 (.inl rfl) rfl rfl rfl ?_ | refine fp3 (.inl rfl) rfl rfl rfl rfl ?_ | refine fp0 (.inr rfl) rfl ?_ | refine fp0 (.inl rfl) rfl ?_ | refine fp1 (.inr rfl) rfl rfl ?_)
  exact ⟨Frm.refl _, _, rfl, by decide +kernel, by decide +kernel⟩
set_option maxHeartbeats 2000000 in
set_option maxRecDepth 100000 in
theorem textR6_ok (w : World) : CallsR Tryz.prog 49 #[int (6 : Nat)] w fun v w' => Frm w w' ∧ TextIs 6 v := by
  refine enter (l := [int (6 : Nat)]) Tryz.func49 rfl Tryz.ntmps49 (by kernel_rfl) rfl ?_
  refine sgo ?_
  (first | refine fp1 (.inl rfl) rfl rfl ?_ | refine fp2 (.inl rfl) rfl rfl rfl ?_ | refine fp3 (.inl rfl) rfl rfl rfl rfl ?_ | refine fp0 (.inr rfl) rfl ?_ | refine fp0 (.inl rfl) rfl ?_ | refine fp1 (.inr rfl) rfl rfl ?_)
  exact ⟨Frm.refl _, _, rfl, by decide +kernel, by decide +kernel⟩
set_option maxHeartbeats 2000000 in
set_option maxRecDepth 100000 in
theorem textR15_ok (w : World) : CallsR Tryz.prog 49 #[int (15 : Nat)] w fun v w' => Frm w w' ∧ TextIs 15 v := by
  refine enter (l := [int (15 : Nat)]) Tryz.func49 rfl Tryz.ntmps49 (by kernel_rfl) rfl ?_
  refine sgo ?_
  (first | refine fp1 (.inl rfl) rfl rfl ?_ | refine fp2 (.inl rfl) rfl rfl rfl ?_ | refine fp3 (.inl rfl) rfl rfl rfl rfl ?_ | refine fp0 (.inr rfl) rfl ?_ | refine fp0 (.inl rfl) rfl ?_ | refine fp1 (.inr rfl) rfl rfl ?_)
  exact ⟨Frm.refl _, _, rfl, by decide +kernel, by decide +kernel⟩
set_option maxHeartbeats 1000000 in
theorem refInK_ok (k : Nat) (hT : ∀ w, CallsR Tryz.prog 49 #[int k] w fun v w' => Frm w w' ∧ TextIs k v) (h0 : inSet k [] = false) (hk : k < 16) (n : List UInt8) (w : World) : PureC Tryz.prog 31 #[str n, int k] w (.bool (inSet k n)) := by
  refine enter (l := [str n, int k]) Tryz.func31 rfl Tryz.ntmps31 (by kernel_rfl) rfl ?_
  refine sgo ?_
  (show WC _ _ _ _ _ _ _; first | refine WC_dec rfl (fun hc => ?_) (fun hc => ?_) | refine WC_cond rfl (fun hc => ?_) (fun hc => ?_))
  · subst hc
    refine sgo ?_
    (first | refine fp1 (.inl rfl) rfl rfl ?_ | refine fp2 (.inl rfl) rfl rfl rfl ?_ | refine fp3 (.inl rfl) rfl rfl rfl rfl ?_ | refine fp0 (.inr rfl) rfl ?_ | refine fp0 (.inl rfl) rfl ?_ | refine fp1 (.inr rfl) rfl rfl ?_); refine ⟨?_, by (first | exact Frm.refl _ | assumption | exact Go.Sv.Sep.frm (by assumption) | (refine Frm.trans ?_ (by assumption); first | exact Frm.refl _ | assumption))⟩; (try simp only [realB, rv_true, Nat.reduceBEq, cond_true, cond_false, entG, real_lif, updGL])
    rw [h0]
  refine sgo ?_
  refine wlcall (hT _) ?_
  rintro _ w1 ⟨hf1, T, rfl, hTl, hTf⟩
  refine sgo ?_
  refine wlcall (refFields_ok T hTl w1) ?_
  rintro _ w3 ⟨q, c, rfl, hS⟩
  have hfl : (fieldsR T).length ≤ T.length + 1 := fgo_len T []
  unfold inSet
  rw [← hTf]
  generalize fieldsR T = l at *
  replace hS : Sep w w3 [pRow 1 q l.length c (strs l)] := ⟨hf1.trans hS.frm, hS.ok, fun c hc x hx => Nat.le_trans hf1.size (hS.low c hc x hx), hS.apart⟩
  clear hc
  refine sgo ?_
  refine wcloop (X := Nat) (fun i => [(0, str n), (11, .slice q l.length c), (12, int l.length), (13, int i)])
    (fun i wr => i ≤ l.length ∧ (∀ j, (hj : j < l.length) → j < i → l[j] ≠ n) ∧ wr = w3) (fun i => l.length - i) 0 ⟨rfl, rfl, rfl, rfl, trivial⟩ ⟨Nat.zero_le _, fun _ _ h => absurd h (by omega), rfl⟩ ?_
  rintro i wr ρ ⟨hil, hj, rfl⟩
  refine sgo ?_
  (show WC _ _ _ _ _ _ _; first | refine WC_dec rfl (fun hc => ?_) (fun hc => ?_) | refine WC_cond rfl (fun hc => ?_) (fun hc => ?_))
  · have hlt : i < l.length := by omega
    have hq : ∃ a, q = some a := (hS.row 0 rfl).sg.some (by rw [strs_len]; omega)
    have hg := strs_get hlt
    generalize hx : l[i] = x at *
    clear hc
    refine sgo ?_
    (show WC _ _ _ _ _ _ _; first | refine WC_dec rfl (fun hc => ?_) (fun hc => ?_) | refine WC_cond rfl (fun hc => ?_) (fun hc => ?_))
    · refine sgo ?_
      (first | refine fp1 (.inl rfl) rfl rfl ?_ | refine fp2 (.inl rfl) rfl rfl rfl ?_ | refine fp3 (.inl rfl) rfl rfl rfl rfl ?_ | refine fp0 (.inr rfl) rfl ?_ | refine fp0 (.inl rfl) rfl ?_ | refine fp1 (.inr rfl) rfl rfl ?_); refine ⟨?_, by (first | exact Frm.refl _ | assumption | exact Go.Sv.Sep.frm (by assumption) | (refine Frm.trans ?_ (by assumption); first | exact Frm.refl _ | assumption))⟩; (try simp only [realB, rv_true, Nat.reduceBEq, cond_true, cond_false, entG, real_lif, updGL])
      rw [decide_eq_true]
      rw [← hc, ← hx]; exact List.getElem_mem hlt
    · refine sgo ?_
      refine ⟨i + 1, ⟨rfl, rfl, rfl, rfl, trivial⟩, ⟨hlt, fun j hj' hji => ?_, rfl⟩, (by (try dsimp only); omega)⟩
      rcases Nat.lt_or_ge j i with h | h
      · exact hj j hj' h
      · obtain rfl : j = i := by omega
        rw [hx]; exact hc
  · refine sgo ?_
    (first | refine fp1 (.inl rfl) rfl rfl ?_ | refine fp2 (.inl rfl) rfl rfl rfl ?_ | refine fp3 (.inl rfl) rfl rfl rfl rfl ?_ | refine fp0 (.inr rfl) rfl ?_ | refine fp0 (.inl rfl) rfl ?_ | refine fp1 (.inr rfl) rfl rfl ?_); refine ⟨?_, by (first | exact Frm.refl _ | assumption | exact Go.Sv.Sep.frm (by assumption) | (refine Frm.trans ?_ (by assumption); first | exact Frm.refl _ | assumption))⟩; (try simp only [realB, rv_true, Nat.reduceBEq, cond_true, cond_false, entG, real_lif, updGL])
    rw [decide_eq_false]
    exact mem_at fun j hj' => hj j hj' (by omega)
theorem refIn15_ok (n : Nm) (w : World) : PureC Tryz.prog 31 #[str n, int (15 : Nat)] w (.bool (isAllow n)) := refInK_ok 15 textR15_ok (by decide +kernel) (by decide) n w
theorem refIn6_ok (n : Nm) (w : World) : PureC Tryz.prog 31 #[str n, int (6 : Nat)] w (.bool (isBlk n)) := refInK_ok 6 textR6_ok (by decide +kernel) (by decide) n w
theorem refInV_ok (n : Nm) (w : World) : PureC Tryz.prog 31 #[str n, int (0 : Nat)] w (.bool (isVoid n)) := refInK_ok 0 textR0_ok (by decide +kernel) (by decide) n w
end Go.Proofs.YtmnnffenijjpcaaGreatDoor

/-
  Package sieveref16: asks.
-/
set_option linter.unusedSimpArgs false
set_option linter.unusedVariables false
set_option linter.unnecessarySimpa false
namespace Go.Proofs.YtmnnffenijjpcaaGreatDoor
open Go Go.Sv Go.RowKit

def cParts : Nm := [99, 97, 112, 116, 105, 111, 110, 32, 99, 111, 108, 103, 114, 111, 117, 112, 32, 116, 104, 101, 97, 100, 32, 116, 98, 111, 100, 121, 32, 116, 102, 111, 111, 116]
def cCol : Nm := [116, 97, 98, 108, 101, 32, 99, 111, 108, 103, 114, 111, 117, 112]
def cTr : Nm := [116, 97, 98, 108, 101, 32] ++ cGroups
def cTd : Nm := cTr ++ [32, 116, 114]
def askE2 (name : Nm) (s : List Nm) : List Nm × List Nm :=
  if name = nLi ∨ name = nDt ∨ name = nDd then
    match tpm (if name = nLi then isLst else isNm nDl) isWall s with
    | some i => (s.take (i + 1), [])
    | none => (riS s, innerP (topR (riS s)) ++ [if name = nLi then nUl else nDl])
  else if isR name cParts = true then placeA (fun n => isR n nTable) s [] []
  else if name = nCol then placeA (fun n => isR n cCol) s [nColgroup] []
  else if name = nTr then placeA (fun n => isR n cTr) s [nTbody] []
  else if name = nTd ∨ name = nTh then placeA (fun n => isR n cTd) s [nTbody, nTr] [nTr]
  else (riS s, innerP (topR (riS s)))
def refAskR (s : List Nm) (name : Nm) : List Nm × List Nm := askE2 name (askS s name)
theorem is_heads : (fun n => isR n cHeads) = isHead := by
  funext n
  unfold isR isHead inSet
  rw [show fieldsR cHeads = Lib.fields (setT 5) from by decide +kernel]
theorem abv_a (s : List Nm) : abvR (topN (fun n => isR n nA) s) (topN (fun n => isR n cCells) s) = tpm (isNm nA) isCell s := by
  rw [is_one (by decide +kernel), is_cells]
  refine abv_tpm (fun n hn => ?_) s
  obtain rfl := of_decide_eq_true hn
  decide
theorem abv_h (s : List Nm) : abvR (topN (fun n => isR n cHeads) s) (topN (fun n => isR n cWalls) s) = tpm isHead isWall s := by
  rw [is_heads, is_walls]
  exact abv_tpm (fun n hn => (head_facts hn).2.2.2.2.2.2.2) s
theorem abv_l (s : List Nm) : abvR (topN (fun n => isR n cLists) s) (topN (fun n => isR n cWalls) s) = tpm isLst isWall s := by
  rw [is_lists, is_walls]
  refine abv_tpm (fun n hn => ?_) s
  simp only [isLst, Bool.or_eq_true, decide_eq_true_eq] at hn
  rcases hn with (rfl | rfl) | rfl <;> decide
theorem abv_d (s : List Nm) : abvR (topN (fun n => isR n nDl) s) (topN (fun n => isR n cWalls) s) = tpm (isNm nDl) isWall s := by
  rw [is_one (by decide +kernel), is_walls]
  refine abv_tpm (fun n hn => ?_) s
  obtain rfl := of_decide_eq_true hn
  decide
set_option maxHeartbeats 8000000 in
theorem refAsks_ok (s : List Nm) (q : Option Addr) (c : Nat) (name : Nm) (hcc : s.length ≤ c) (hll : s.length ≤ 4194304) (w : World) (his : Im [] w q (strs s)) :
    CallsR Tryz.prog 32 #[.slice q s.length c, str name] w (AskV w.heap.size q c w (refAskR s name)) := by
  have hF : Frm w w := Frm.refl w
  have hsl := strs_len s
  refine enter (l := [.slice q s.length c, str name]) Tryz.func32 rfl Tryz.ntmps32 (by kernel_rfl) rfl ?_
  refine WC_seq ?_; refine WC_region ?_; (repeat (first | refine wlp ?_ | refine WL_nil ?_ | (show WL _ _ _ _ _ (Go.Oper.mk _ _ _ _ _ none :: _) _ _; first | refine wlpk ?_ | refine wl_load ?_ | refine wl_idxa ?_ | refine wl_fld ?_ | refine wl_idx ?_ | refine wl_len ?_ | refine wl_bin ?_ | refine wl_cnv ?_ | refine wl_slc ?_ | refine wl_una ?_ | refine wl_nilc ?_ | refine wl_mkf ?_) | refine wlpg ?_ | refine wlg_load ?_ | refine wlg_idxa ?_ | refine wlg_fld ?_ | refine wlg_idx ?_ | refine wlg_len ?_ | refine wlg_bin ?_ | refine wlg_cnv ?_ | refine wlg_slc ?_ | refine wlg_una ?_ | refine wlg_nilc ?_ | refine wlg_mkf ?_)); refine thn_normal ?_
  refine WC_seq ?_; refine WC_region ?_; (repeat (first | refine wlp ?_ | refine WL_nil ?_ | (show WL _ _ _ _ _ (Go.Oper.mk _ _ _ _ _ none :: _) _ _; first | refine wlpk ?_ | refine wl_load ?_ | refine wl_idxa ?_ | refine wl_fld ?_ | refine wl_idx ?_ | refine wl_len ?_ | refine wl_bin ?_ | refine wl_cnv ?_ | refine wl_slc ?_ | refine wl_una ?_ | refine wl_nilc ?_ | refine wl_mkf ?_) | refine wlpg ?_ | refine wlg_load ?_ | refine wlg_idxa ?_ | refine wlg_fld ?_ | refine wlg_idx ?_ | refine wlg_len ?_ | refine wlg_bin ?_ | refine wlg_cnv ?_ | refine wlg_slc ?_ | refine wlg_una ?_ | refine wlg_nilc ?_ | refine wlg_mkf ?_)); refine thn_normal ?_
  obtain ⟨u0, hu0⟩ : ∃ u, u = ask0 s := ⟨_, rfl⟩
  refine wcut (X := Unit) (fun _ => [(0, .slice q s.length c), (1, str name), (6, .slice q u0.length c)]) (fun _ wr => Frm w wr) ?_ ?_
  · rcases Nat.eq_zero_or_pos s.length with h0 | h0
    · obtain rfl := List.eq_nil_of_length_eq_zero h0
      obtain rfl : u0 = [] := hu0
      simp only [List.length_nil]
      refine sgo ?_
      refine wlskipg (.pointer none) ?_ (hgt := by simp)
      refine wlskipg (str []) ?_ (hgt := by simp)
      refine sgo ?_
      exact ⟨(), ⟨rfl, rfl, rfl, trivial⟩, hF⟩
    · have hx : s[s.length - 1]? = some (topR s) := by
        unfold topR
        rw [List.getLast?_eq_getElem?, List.getElem?_eq_getElem (by omega)]
        rfl
      have hxv := strs_at hx
      have hps : ∃ a, q = some a := his.some (by omega)
      have i1 : ((s.length : Int) - 1).toNat = s.length - 1 := by omega
      have hp0 : decide ((0 : Int) < (s.length : Int)) = true := decide_eq_true (by omega)
      refine sgo ?_
      rw [i1]
      refine sgo ?_
      rw [hp0]
      by_cases ht : topR s = nTextarea
      · have e : u0.length = s.length - 1 := by rw [hu0]; unfold ask0; rw [if_pos ht, List.length_dropLast]
        rw [e]
        refine wcyes ?_ (ht := by rw [pkb_and, decide_eq_true (show topR s = [116, 101, 120, 116, 97, 114, 101, 97] from ht)]; rfl)
        refine sgo ?_
        rw [i1]
        refine sgo ?_
        exact ⟨(), ⟨rfl, rfl, rfl, trivial⟩, hF⟩
      · have e : u0 = s := by rw [hu0]; unfold ask0; rw [if_neg ht]
        rw [e]
        refine wcno ?_ (ht := by rw [pkb_and, decide_eq_false (show ¬ topR s = [116, 101, 120, 116, 97, 114, 101, 97] from ht)]; rfl)
        refine sgo ?_
        exact ⟨(), ⟨rfl, rfl, rfl, trivial⟩, hF⟩
  clear hF
  rintro _ w1 ρ hF
  have hask : askS s name = ask3 name (ask2 name (ask1 name u0)) := by rw [hu0]; rfl
  have hpre0 : ∃ i, u0 = s.take i := by rw [hu0]; exact ask0_pre s
  have hfacts : ∀ u : List Nm, (∃ i, u = s.take i) → u.length ≤ c ∧ u.length ≤ 4194304 ∧ Im [] w q (strs u) := by
    rintro u ⟨i, rfl⟩
    have : (s.take i).length ≤ s.length := by rw [List.length_take]; omega
    exact ⟨by omega, by omega, take_succ_strs his i⟩
  clear hu0
  obtain ⟨u1, hu1⟩ : ∃ u1, u1 = ask1 name u0 := ⟨_, rfl⟩
  rw [← hu1] at hask
  have hpre1 : ∃ i, u1 = s.take i := by
    rw [hu1]; unfold ask1; split
    · exact cutW_pre2 hpre0 _
    · exact hpre0
  obtain ⟨hc0, hl0, hi0⟩ := hfacts u0 hpre0
  refine wcut (X := Unit) (fun _ => [(0, .slice q s.length c), (1, str name), (6, .slice q u1.length c)]) (fun _ wr => Frm w wr) ?_ ?_
  · by_cases ha : name = nA
    · have e : u1 = cutW u0 (tpm (isNm nA) isCell u0) := by rw [hu1]; unfold ask1; rw [if_pos ha]
      refine sgo ?_
      refine wcyes ?_ (ht := decide_eq_true ha)
      refine sgo ?_
      refine wlpure (refAbove_ok u0 q c nA cCells (by decide) (by decide) hl0 _ (hi0.frm hF)) fun w2 hf2 => ?_
      replace hF := hF.trans hf2
      rw [abv_a]
      cases ho : tpm (isNm nA) isCell u0 with
      | none =>
        rw [ho] at e
        rw [e]
        unfold placeV cutW
        refine sgo ?_
        exact ⟨(), ⟨rfl, rfl, rfl, trivial⟩, hF⟩
      | some i =>
        have hi := cut_len ho
        rw [ho] at e
        have e2 : u1.length = i := by rw [e, cutW_some, len_take (by omega)]
        rw [e2]
        unfold placeV
        dsimp only
        refine sgo ?_
        refine wcyes ?_ (ht := decide_eq_true (by omega))
        refine sgo ?_
        exact ⟨(), ⟨rfl, rfl, rfl, trivial⟩, hF⟩
    · have e : u1 = u0 := by rw [hu1]; unfold ask1; rw [if_neg ha]
      rw [e]
      refine sgo ?_
      refine wcno ?_ (ht := decide_eq_false ha)
      refine sgo ?_
      exact ⟨(), ⟨rfl, rfl, rfl, trivial⟩, hF⟩
  clear hF hu1 hpre0 hc0 hl0 hi0 u0
  rintro _ w2 ρ2 hF
  obtain ⟨u2, hu2⟩ : ∃ u2, u2 = ask2 name u1 := ⟨_, rfl⟩
  rw [← hu2] at hask
  have hpre2 : ∃ i, u2 = s.take i := by
    rw [hu2]; unfold ask2; split
    · exact cutW_pre2 hpre1 _
    · exact hpre1
  obtain ⟨hc1, hl1, hi1⟩ := hfacts u1 hpre1
  refine wcut (X := Unit) (fun _ => [(0, .slice q s.length c), (1, str name), (6, .slice q u2.length c)]) (fun _ wr => Frm w wr) ?_ ?_
  · refine sgo ?_
    refine wlpure (refIs_ok name cHeads (by decide) _) fun w3 hf3 => ?_
    replace hF := hF.trans hf3
    rw [show isR name cHeads = isHead name from congrFun is_heads name]
    cases ha : isHead name with
    | true =>
      have e : u2 = cutW u1 (tpm isHead isWall u1) := by rw [hu2]; unfold ask2; rw [if_pos ha]
      refine sgo ?_
      refine wlpure (refAbove_ok u1 q c cHeads cWalls (by decide) (by decide) hl1 _ (hi1.frm hF)) fun w2 hf2 => ?_
      replace hF := hF.trans hf2
      rw [abv_h]
      cases ho : tpm isHead isWall u1 with
      | none =>
        rw [ho] at e
        rw [e]
        unfold placeV cutW
        refine sgo ?_
        exact ⟨(), ⟨rfl, rfl, rfl, trivial⟩, hF⟩
      | some i =>
        have hi := cut_len ho
        rw [ho] at e
        have e2 : u2.length = i := by rw [e, cutW_some, len_take (by omega)]
        rw [e2]
        unfold placeV
        dsimp only
        refine sgo ?_
        refine wcyes ?_ (ht := decide_eq_true (by omega))
        refine sgo ?_
        exact ⟨(), ⟨rfl, rfl, rfl, trivial⟩, hF⟩
    | false =>
      have e : u2 = u1 := by rw [hu2]; unfold ask2; rw [ha, if_neg Bool.false_ne_true]
      rw [e]
      refine sgo ?_
      exact ⟨(), ⟨rfl, rfl, rfl, trivial⟩, hF⟩
  clear hF hu2 hpre1 hc1 hl1 hi1 u1
  rintro _ w3 ρ3 hF
  obtain ⟨u, hu⟩ : ∃ u, u = ask3 name u2 := ⟨_, rfl⟩
  rw [← hu] at hask
  have hpre3 : ∃ i, u = s.take i := by
    rw [hu]; unfold ask3; split
    · exact cutW_pre2 hpre2 _
    · exact hpre2
  obtain ⟨hc2, hl2, hi2⟩ := hfacts u2 hpre2
  refine wcut (X := Unit) (fun _ => [(0, .slice q s.length c), (1, str name), (6, .slice q u.length c)]) (fun _ wr => Frm w wr) ?_ ?_
  · refine sgo ?_
    refine wlpure (refIn6_ok name _) fun w3 hf3 => ?_
    replace hF := hF.trans hf3
    cases ha : isBlk name with
    | true =>
      have e : u = unbR u2 := by rw [hu]; unfold ask3; rw [if_pos ha]; rfl
      rw [e]
      refine sgo ?_
      refine wlpure (refUnb_ok u2 q c hc2 hl2 _ (hi2.frm hF)) fun w2 hf2 => ?_
      replace hF := hF.trans hf2
      refine sgo ?_
      exact ⟨(), ⟨rfl, rfl, rfl, trivial⟩, hF⟩
    | false =>
      have e : u = u2 := by rw [hu]; unfold ask3; rw [ha, if_neg Bool.false_ne_true]
      rw [e]
      refine sgo ?_
      exact ⟨(), ⟨rfl, rfl, rfl, trivial⟩, hF⟩
  clear hF hu hpre2 hc2 hl2 hi2 u2
  rintro _ w4 ρ4 hF
  obtain ⟨hc, hl, hi⟩ := hfacts u hpre3
  unfold refAskR
  rw [hask]
  clear hask hfacts hpre3 his hsl hll hcc
  have hin := fun w' (hF : Frm w w') => refInner_ok q c u hc hl w' (hi.frm hF)
  unfold askE2
  by_cases hli : name = nLi ∨ name = nDt ∨ name = nDd
  · rw [if_pos hli]
    by_cases hn : name = nLi
    · subst hn
      rw [if_pos rfl, if_pos rfl]
      refine sgo ?_
      refine wlpure (refAbove_ok u q c cLists cWalls (by decide) (by decide) hl _ (hi.frm hF)) fun w5 hf5 => ?_
      replace hF := hF.trans hf5
      rw [abv_l u]
      cases ho : tpm (isLst) isWall u with
      | some i =>
        have hlt := cut_len ho
        unfold placeV AskV
        dsimp only
        rw [len_take (show i + 1 ≤ u.length by omega)]
        refine sgo ?_
        refine wcyes ?_ (ht := decide_eq_true (by omega))
        refine sgo ?_
        (first | refine fp1 (.inl rfl) rfl rfl ?_ | refine fp2 (.inl rfl) rfl rfl rfl ?_ | refine fp3 (.inl rfl) rfl rfl rfl rfl ?_ | refine fp0 (.inr rfl) rfl ?_ | refine fp0 (.inl rfl) rfl ?_ | refine fp1 (.inr rfl) rfl rfl ?_)
        exact ⟨none, 0, rfl, hF, Im.nil _ _ _, Nb.none _⟩
      | none =>
        unfold placeV
        dsimp only
        refine sgo ?_
        refine wlcall (hin _ hF) ?_
        rintro _ w6 ⟨q3, c3, rfl, hF3, hI3, -⟩
        replace hF := hF.trans hF3
        have hpl := innerP_len (topR (riS u))
        unfold AskV
        dsimp only at hI3 ⊢
        generalize innerP (topR (riS u)) = put at *
        have h1l := strs_len put
        refine sgo ?_
        refine sb0 (Sep.start w6) fun b5 w7 hS => ?_
        refine sgo ?_
        refine sapp hS 0 (hI3.sep hS).sg (fun q6 c6 w8 hS => ?_) (hl := by omega) (h1 := strs_one put)
        rw [List.nil_append, show 0 + put.length = put.length from Nat.zero_add _] at hS
        rw [show 0 + put.length = put.length from Nat.zero_add _]
        refine sgo ?_
        refine sb1s hS fun b7 w9 hS => ?_
        refine sgo ?_
        refine sapp hS 1 (hS.own 0 rfl).sg fun q8 c8 w10 hS => ?_
        replace hS : Sep w6 w10 [pOwn b7 [str nUl], pRow 1 q8 (put.length + 1) c8 (strs put ++ [str nUl])] := hS
        rw [strs_snoc] at hS
        have hln : (put ++ [nUl]).length = put.length + 1 := by simp only [List.length_append, List.length_singleton]
        rw [hln]
        refine sgo ?_
        (first | refine fp1 (.inl rfl) rfl rfl ?_ | refine fp2 (.inl rfl) rfl rfl rfl ?_ | refine fp3 (.inl rfl) rfl rfl rfl rfl ?_ | refine fp0 (.inr rfl) rfl ?_ | refine fp0 (.inl rfl) rfl ?_ | refine fp1 (.inr rfl) rfl rfl ?_)
        exact ⟨q8, c8, rfl, hF.trans hS.frm, hS.im 1 rfl, (hS.nbr 1 rfl).mono hF.size⟩
    · rw [if_neg hn, if_neg hn]
      have hor : (decide (name = [100, 116]) || decide (name = [100, 100])) = true := by
        rcases hli with h | h | h
        · exact absurd h hn
        · rw [decide_eq_true (show name = [100, 116] from h)]; rfl
        · rw [decide_eq_true (show name = [100, 100] from h), Bool.or_true]
      refine sgo ?_
      refine wcyes ?_ (ht := by rw [pkb_or, pkb_or, Bool.or_assoc, hor, Bool.or_true])
      refine sgo ?_
      refine wcyes ?_ (ht := decide_eq_true (show name ≠ [108, 105] from hn))
      refine sgo ?_
      refine wlpure (refAbove_ok u q c nDl cWalls (by decide) (by decide) hl _ (hi.frm hF)) fun w5 hf5 => ?_
      replace hF := hF.trans hf5
      rw [abv_d u]
      cases ho : tpm (isNm nDl) isWall u with
      | some i =>
        have hlt := cut_len ho
        unfold placeV AskV
        dsimp only
        rw [len_take (show i + 1 ≤ u.length by omega)]
        refine sgo ?_
        refine wcyes ?_ (ht := decide_eq_true (by omega))
        refine sgo ?_
        (first | refine fp1 (.inl rfl) rfl rfl ?_ | refine fp2 (.inl rfl) rfl rfl rfl ?_ | refine fp3 (.inl rfl) rfl rfl rfl rfl ?_ | refine fp0 (.inr rfl) rfl ?_ | refine fp0 (.inl rfl) rfl ?_ | refine fp1 (.inr rfl) rfl rfl ?_)
        exact ⟨none, 0, rfl, hF, Im.nil _ _ _, Nb.none _⟩
      | none =>
        unfold placeV
        dsimp only
        refine sgo ?_
        refine wlcall (hin _ hF) ?_
        rintro _ w6 ⟨q3, c3, rfl, hF3, hI3, -⟩
        replace hF := hF.trans hF3
        have hpl := innerP_len (topR (riS u))
        unfold AskV
        dsimp only at hI3 ⊢
        generalize innerP (topR (riS u)) = put at *
        have h1l := strs_len put
        refine sgo ?_
        refine sb0 (Sep.start w6) fun b5 w7 hS => ?_
        refine sgo ?_
        refine sapp hS 0 (hI3.sep hS).sg (fun q6 c6 w8 hS => ?_) (hl := by omega) (h1 := strs_one put)
        rw [List.nil_append, show 0 + put.length = put.length from Nat.zero_add _] at hS
        rw [show 0 + put.length = put.length from Nat.zero_add _]
        refine sgo ?_
        refine sb1s hS fun b7 w9 hS => ?_
        refine sgo ?_
        refine sapp hS 1 (hS.own 0 rfl).sg fun q8 c8 w10 hS => ?_
        replace hS : Sep w6 w10 [pOwn b7 [str nDl], pRow 1 q8 (put.length + 1) c8 (strs put ++ [str nDl])] := hS
        rw [strs_snoc] at hS
        have hln : (put ++ [nDl]).length = put.length + 1 := by simp only [List.length_append, List.length_singleton]
        rw [hln]
        refine sgo ?_
        (first | refine fp1 (.inl rfl) rfl rfl ?_ | refine fp2 (.inl rfl) rfl rfl rfl ?_ | refine fp3 (.inl rfl) rfl rfl rfl rfl ?_ | refine fp0 (.inr rfl) rfl ?_ | refine fp0 (.inl rfl) rfl ?_ | refine fp1 (.inr rfl) rfl rfl ?_)
        exact ⟨q8, c8, rfl, hF.trans hS.frm, hS.im 1 rfl, (hS.nbr 1 rfl).mono hF.size⟩
  rw [if_neg hli]
  have hli1 : ¬ name = [108, 105] := fun h => hli (.inl h)
  have hli2 : ¬ name = [100, 116] := fun h => hli (.inr (.inl h))
  have hli3 : ¬ name = [100, 100] := fun h => hli (.inr (.inr h))
  refine sgo ?_
  refine wcno ?_ (ht := by rw [pkb_or, pkb_or, decide_eq_false hli1, decide_eq_false hli2, decide_eq_false hli3]; rfl)
  refine sgo ?_
  refine wlpure (refIs_ok name cParts (by decide) _) fun w5 hf5 => ?_
  replace hF := hF.trans hf5
  have hnil : ∀ w' : World, Im [] w' none (strs []) := fun w' => Im.nil _ _ _
  cases h1 : isR name cParts with
  | true =>
    rw [if_pos rfl]
    refine sgo ?_
    refine wlcall (refPlace_ok u q c nTable [] [] none none 0 0 (by decide) hc hl (by decide) _ (hi.frm hF) (hnil _) (hnil _) w.heap.size hF.size (Nb.none _) (Nb.none _)) ?_
    rintro _ w6 ⟨q6, c6, rfl, hF6, hI6, hN6⟩
    refine sgo ?_
    (first | refine fp1 (.inl rfl) rfl rfl ?_ | refine fp2 (.inl rfl) rfl rfl rfl ?_ | refine fp3 (.inl rfl) rfl rfl rfl rfl ?_ | refine fp0 (.inr rfl) rfl ?_ | refine fp0 (.inl rfl) rfl ?_ | refine fp1 (.inr rfl) rfl rfl ?_)
    exact ⟨q6, c6, rfl, hF.trans hF6, hI6, hN6⟩
  | false =>
    rw [if_neg Bool.false_ne_true]
    refine sgo ?_
    by_cases h2 : name = nCol
    · rw [if_pos h2]
      refine wcyes ?_ (ht := decide_eq_true h2)
      refine sgo ?_
      refine sb1s (Sep.start _) fun b6 w6 hS => ?_
      refine sgo ?_
      refine wlcall (refPlace_ok u q c cCol [nColgroup] [] (pb b6) none 1 0 (by decide) hc hl (by decide) _ (hi.frm (hF.trans hS.frm)) ((hS.own 0 rfl).im (by simp)) (hnil _) w.heap.size (hF.trans hS.frm).size ((hS.nbo 0 rfl).mono hF.size) (Nb.none _)) ?_
      rintro _ w8 ⟨q6, c6, rfl, hF6, hI6, hN6⟩
      refine sgo ?_
      (first | refine fp1 (.inl rfl) rfl rfl ?_ | refine fp2 (.inl rfl) rfl rfl rfl ?_ | refine fp3 (.inl rfl) rfl rfl rfl rfl ?_ | refine fp0 (.inr rfl) rfl ?_ | refine fp0 (.inl rfl) rfl ?_ | refine fp1 (.inr rfl) rfl rfl ?_)
      exact ⟨q6, c6, rfl, (hF.trans hS.frm).trans hF6, hI6, hN6⟩
    rw [if_neg h2]
    refine wcno ?_ (ht := decide_eq_false h2)
    refine sgo ?_
    by_cases h3 : name = nTr
    · rw [if_pos h3]
      refine wcyes ?_ (ht := decide_eq_true h3)
      refine sgo ?_
      refine sb1s (Sep.start _) fun b6 w6 hS => ?_
      refine sgo ?_
      refine wlcall (refPlace_ok u q c cTr [nTbody] [] (pb b6) none 1 0 (by decide) hc hl (by decide) _ (hi.frm (hF.trans hS.frm)) ((hS.own 0 rfl).im (by simp)) (hnil _) w.heap.size (hF.trans hS.frm).size ((hS.nbo 0 rfl).mono hF.size) (Nb.none _)) ?_
      rintro _ w8 ⟨q6, c6, rfl, hF6, hI6, hN6⟩
      refine sgo ?_
      (first | refine fp1 (.inl rfl) rfl rfl ?_ | refine fp2 (.inl rfl) rfl rfl rfl ?_ | refine fp3 (.inl rfl) rfl rfl rfl rfl ?_ | refine fp0 (.inr rfl) rfl ?_ | refine fp0 (.inl rfl) rfl ?_ | refine fp1 (.inr rfl) rfl rfl ?_)
      exact ⟨q6, c6, rfl, (hF.trans hS.frm).trans hF6, hI6, hN6⟩
    rw [if_neg h3]
    refine wcno ?_ (ht := decide_eq_false h3)
    refine sgo ?_
    by_cases h4 : name = nTd ∨ name = nTh
    · rw [if_pos h4]
      have hor : (decide (name = [116, 100]) || decide (name = [116, 104])) = true := by
        rcases h4 with h | h
        · rw [decide_eq_true (show name = [116, 100] from h)]; rfl
        · rw [decide_eq_true (show name = [116, 104] from h), Bool.or_true]
      refine wcyes ?_ (ht := by rw [pkb_or, hor])
      refine sgo ?_
      refine sbsn (Sep.start _) (strs [nTbody, nTr]) 2 (fun b6 w6 hS => ?_) (h1 := by simp [strs, Value.cells])
      refine sgo ?_
      refine sb1s hS fun b7 w7 hS => ?_
      refine sgo ?_
      refine wlcall (refPlace_ok u q c cTd [nTbody, nTr] [nTr] (pb b6) (pb b7) 2 1 (by decide) hc hl (by decide) _ (hi.frm (hF.trans hS.frm)) ((hS.own 1 rfl).im (by simp)) ((hS.own 0 rfl).im (by simp)) w.heap.size (hF.trans hS.frm).size ((hS.nbo 1 rfl).mono hF.size) ((hS.nbo 0 rfl).mono hF.size)) ?_
      rintro _ w8 ⟨q6, c6, rfl, hF6, hI6, hN6⟩
      refine sgo ?_
      (first | refine fp1 (.inl rfl) rfl rfl ?_ | refine fp2 (.inl rfl) rfl rfl rfl ?_ | refine fp3 (.inl rfl) rfl rfl rfl rfl ?_ | refine fp0 (.inr rfl) rfl ?_ | refine fp0 (.inl rfl) rfl ?_ | refine fp1 (.inr rfl) rfl rfl ?_)
      exact ⟨q6, c6, rfl, (hF.trans hS.frm).trans hF6, hI6, hN6⟩
    rw [if_neg h4]
    have h41 : ¬ name = [116, 100] := fun h => h4 (.inl h)
    have h42 : ¬ name = [116, 104] := fun h => h4 (.inr h)
    refine wcno ?_ (ht := by rw [pkb_or, decide_eq_false h41, decide_eq_false h42]; rfl)
    refine sgo ?_
    refine wlcall (hin _ hF) ?_
    rintro _ w6 ⟨q6, c6, rfl, hF6, hI6, hN6⟩
    refine sgo ?_
    (first | refine fp1 (.inl rfl) rfl rfl ?_ | refine fp2 (.inl rfl) rfl rfl rfl ?_ | refine fp3 (.inl rfl) rfl rfl rfl rfl ?_ | refine fp0 (.inr rfl) rfl ?_ | refine fp0 (.inl rfl) rfl ?_ | refine fp1 (.inr rfl) rfl rfl ?_)
    exact ⟨q6, c6, rfl, hF.trans hF6, hI6, hN6.mono hF.size⟩
end Go.Proofs.YtmnnffenijjpcaaGreatDoor

/-
  Package sieveref16 and package nest ask the same of a right stack.
-/
set_option linter.unusedSimpArgs false
set_option linter.unusedVariables false
set_option linter.unnecessarySimpa false
namespace Go.Proofs.YtmnnffenijjpcaaGreatDoor
open Go Go.Sv Go.RowKit

theorem stands_cg (y : Nm) : stands nColgroup y = decide (y = nTable) := by
  unfold stands
  rw [if_neg (by decide), if_neg (by decide), if_neg (by decide)]
theorem riS_right {s : List Nm} (hr : rightR s = true) : riS s = innerS s := by
  rcases snoc_cases s with rfl | ⟨t, x, rfl⟩
  · rfl
  · rw [riS_snoc]
    unfold innerS
    rw [topR_snoc]
    by_cases hx : x = nColgroup
    · subst hx
      rw [if_pos rfl, if_pos rfl, List.dropLast_concat]
      obtain ⟨_, _, _, hs⟩ := right_iff.1 hr
      obtain ⟨t', y, rfl, h1, h2⟩ := still_part (x := nColgroup) (by decide) hs.last
      rw [stands_cg] at h1
      obtain rfl := of_decide_eq_true h1
      rw [riS_snoc, if_neg (by decide)]
    · rw [if_neg hx, if_neg hx]
theorem place_own {name : Nm} {is : Nm → Bool} {table group : List Nm} (h1 : is = stands name) (h2 : table = partPut name nTable) (h3 : ∀ n, stands name n = true → n ≠ nTable → (if isGroup n then group else []) = partPut name n) {s : List Nm} (hr : rightR s = true) : placeA is s table group = ownR name s := by
  subst h1
  unfold placeA ownR topN
  cases ho : tpm (stands name) noNm s with
  | none =>
    dsimp only
    have hu : rightR (unbR s) = true := by
      obtain ⟨i, h⟩ := unbR_pre s
      rw [h]; exact right_take hr i
    rw [riS_right hu, h2]
    rfl
  | some i =>
    dsimp only
    obtain ⟨x, t, he, hlt, hx, _, _⟩ := tpm_some ho
    have hg : s.getD i [] = x := by
      rw [he, List.getD_eq_getElem?_getD, List.getElem?_append_right (by rw [List.length_take]; omega)]
      rw [List.length_take, Nat.min_eq_left (by omega), Nat.sub_self]
      rfl
    rw [hg]
    by_cases hn : x = nTable
    · rw [if_pos hn, hn, h2]
    · rw [if_neg hn, h3 x hx hn]
theorem is_parts (n : Nm) : isR n cParts = (decide (n = nCaption) || decide (n = nColgroup) || isGroup n) := by
  rw [is_mem (l := [nCaption, nColgroup, nThead, nTbody, nTfoot]) (by decide +kernel)]
  unfold isGroup
  rw [Bool.eq_iff_iff]; simp [or_assoc]
theorem is_col : (fun n => isR n cCol) = stands nCol := by
  funext n
  rw [is_mem (l := [nTable, nColgroup]) (by decide +kernel)]
  unfold stands
  rw [if_neg (by decide), if_pos rfl]
  rw [Bool.eq_iff_iff]; simp [or_comm]
theorem is_tr : (fun n => isR n cTr) = stands nTr := by
  funext n
  rw [is_mem (l := [nTable, nThead, nTbody, nTfoot]) (by decide +kernel)]
  unfold stands isGroup
  rw [if_neg (by decide), if_neg (by decide), if_pos rfl]
  rw [Bool.eq_iff_iff]; simp only [List.mem_cons, List.not_mem_nil, or_false, Bool.or_eq_true, decide_eq_true_eq]
  constructor
  · rintro (h | h | h | h) <;> simp [h]
  · rintro (((h | h) | h) | h) <;> simp [h]
theorem is_td {name : Nm} (hn : name = nTd ∨ name = nTh) : (fun n => isR n cTd) = stands name := by
  funext n
  rw [is_mem (l := [nTable, nThead, nTbody, nTfoot, nTr]) (by decide +kernel)]
  unfold stands isGroup
  rw [if_pos hn]
  rw [Bool.eq_iff_iff]; simp only [List.mem_cons, List.not_mem_nil, or_false, Bool.or_eq_true, decide_eq_true_eq]
  constructor
  · rintro (h | h | h | h | h) <;> simp [h]
  · rintro ((h | ((h | h) | h)) | h) <;> simp [h]
theorem stands_oth {name : Nm} (h : isR name cParts = true) : name ≠ nTd ∧ name ≠ nTh ∧ name ≠ nCol ∧ name ≠ nTr ∧ isPart name = true ∧ name ≠ nLi ∧ name ≠ nDt ∧ name ≠ nDd := by
  rw [is_parts] at h
  simp only [isGroup, Bool.or_eq_true, decide_eq_true_eq] at h
  rcases h with (rfl | rfl) | ((rfl | rfl) | rfl) <;> decide
theorem askE2_eq (name : Nm) {s : List Nm} (hr : rightR s = true) : askE2 name s = askE name s := by
  have hri := riS_right hr
  unfold askE2
  by_cases hli : name = nLi ∨ name = nDt ∨ name = nDd
  · rw [if_pos hli]
    by_cases h1 : name = nLi
    · subst h1
      rw [askE_li, if_pos rfl, if_pos rfl, hri]
      rfl
    · have h2 : name = nDt ∨ name = nDd := hli.resolve_left h1
      rw [askE_d h2, if_neg h1, if_neg h1, hri]
      rfl
  rw [if_neg hli]
  by_cases h1 : isR name cParts = true
  · obtain ⟨n1, n2, n3, n4, hp, _⟩ := stands_oth h1
    have hst : ∀ n, stands name n = decide (n = nTable) := by
      intro n; unfold stands
      rw [if_neg (by rintro (h | h); exact n1 h; exact n2 h), if_neg n3, if_neg n4]
    have hpp : ∀ n, partPut name n = [] := by
      intro n; unfold partPut
      rw [if_neg (by rintro (h | h); exact n1 h; exact n2 h), if_neg n3, if_neg n4]
    rw [if_pos h1, askE_part hp]
    refine place_own ?_ (hpp _).symm (fun n _ _ => by rw [hpp]; simp) hr
    rw [is_one (by decide +kernel)]
    funext n
    rw [hst]; rfl
  rw [if_neg h1]
  by_cases h2 : name = nCol
  · subst h2
    rw [if_pos rfl, askE_part (by decide)]
    refine place_own is_col (by decide) (fun n _ hn => ?_) hr
    rw [ite_self]
    unfold partPut
    rw [if_neg (by decide), if_pos rfl, if_neg hn]
  rw [if_neg h2]
  by_cases h3 : name = nTr
  · subst h3
    rw [if_pos rfl, askE_part (by decide)]
    refine place_own is_tr (by decide) (fun n _ hn => ?_) hr
    rw [ite_self]
    unfold partPut
    rw [if_neg (by decide), if_neg (by decide), if_pos rfl, if_neg hn]
  rw [if_neg h3]
  by_cases h4 : name = nTd ∨ name = nTh
  · rw [if_pos h4, askE_part (by rcases h4 with rfl | rfl <;> decide)]
    refine place_own (is_td h4) (by unfold partPut; rw [if_pos h4, if_neg (by decide), if_pos rfl]) (fun n hs hn => ?_) hr
    unfold partPut
    rw [if_pos h4, if_neg hn]
    unfold stands at hs
    rw [if_pos h4] at hs
    simp only [Bool.or_eq_true, decide_eq_true_eq] at hs
    by_cases h5 : n = nTr
    · subst h5; rfl
    · rw [if_neg h5]
      have : isGroup n = true := by
        rcases hs with (h | h) | h
        · exact absurd h h5
        · exact h
        · exact absurd h hn
      rw [this]; rfl
  rw [if_neg h4]
  have hp : isPart name = false := by
    rw [is_parts] at h1
    unfold isPart
    simp only [Bool.or_eq_true, decide_eq_true_eq, not_or] at h1 h4
    rw [decide_eq_false h1.1.1, decide_eq_false h1.1.2, show isGroup name = false by simpa using h1.2, decide_eq_false h4.1, decide_eq_false h4.2, decide_eq_false h2, decide_eq_false h3]
    rfl
  rw [askE_other hp (fun h => hli (.inl h)) (fun h => hli (.inr (.inl h))) (fun h => hli (.inr (.inr h))), hri]
  rfl
theorem refAsk_eq {s : List Nm} (hr : rightR s = true) (name : Nm) : refAskR s name = askR s name := by
  obtain ⟨i, hi⟩ := askS_pre s name
  unfold refAskR
  rw [ask_eq]
  exact askE2_eq name (by rw [hi]; exact right_take hr i)
end Go.Proofs.YtmnnffenijjpcaaGreatDoor

/-
  Package sieveref16: Open, Text, Allowed.
-/
set_option linter.unusedSimpArgs false
set_option linter.unusedVariables false
set_option linter.unnecessarySimpa false
namespace Go.Proofs.YtmnnffenijjpcaaGreatDoor
open Go Go.Sv Go.RowKit

def PlanF (p : PlanR) (w : World) (v : Value) (w' : World) : Prop :=
  ∃ q' c', v = .agg ⟨[int p.ends, .slice q' p.put.length c', .bool p.drop]⟩ ∧ Frm w w' ∧ Im [] w' q' (strs p.put) ∧ Nb w.heap.size q'
/-- strings lie in no block that holds none -/
theorem Im.off {w : World} {b : Nat} {vs : List Value} {q : Option Addr} {l : List Nm} (h : Im [] w q (strs l)) (ho : Own w b vs) (hv : ∀ v ∈ vs, ∀ x, v ≠ str x) : Im [b] w q (strs l) := by
  rcases h with h | ⟨a, rfl, h1, h2, _⟩
  · exact .inl h
  by_cases hb : a.block = b
  · cases l with
    | nil => exact .inl rfl
    | cons x l =>
      exfalso
      have h0 := h1 0 (by simp [strs])
      obtain ⟨ty, ho⟩ := ho
      subst hb
      have ea : a.add 0 = a := by unfold Addr.add; cases a; split <;> simp_all
      rw [ea] at h0
      unfold World.cell? at h0
      rw [ho] at h0
      replace h0 : (if a.spot.isSome = true then none else vs.toArray[a.off]?) = some (str x) := h0
      split at h0
      · cases h0
      · rw [List.getElem?_toArray] at h0
        exact hv _ (List.mem_of_getElem? h0) x rfl
  · exact .inr ⟨a, rfl, h1, h2, by simpa using hb⟩
theorem refAllowed_ok (n : Nm) (w : World) : PureC Tryz.prog 30 #[str n] w (.bool (isAllow n)) := by
  refine enter (l := [str n]) Tryz.func30 rfl Tryz.ntmps30 (by kernel_rfl) rfl ?_
  refine sgo ?_
  refine wlpure (refIn15_ok n _) fun w1 hf1 => ?_
  refine sgo ?_
  (first | refine fp1 (.inl rfl) rfl rfl ?_ | refine fp2 (.inl rfl) rfl rfl rfl ?_ | refine fp3 (.inl rfl) rfl rfl rfl rfl ?_ | refine fp0 (.inr rfl) rfl ?_ | refine fp0 (.inl rfl) rfl ?_ | refine fp1 (.inr rfl) rfl rfl ?_); refine ⟨?_, by (first | exact Frm.refl _ | assumption | exact Go.Sv.Sep.frm (by assumption) | (refine Frm.trans ?_ (by assumption); first | exact Frm.refl _ | assumption))⟩; (try simp only [realB, rv_true, Nat.reduceBEq, cond_true, cond_false, entG, real_lif, updGL])
end Go.Proofs.YtmnnffenijjpcaaGreatDoor

/-
  Package sieveref16: Text.
-/
set_option linter.unusedSimpArgs false
set_option linter.unusedVariables false
set_option linter.unnecessarySimpa false
namespace Go.Proofs.YtmnnffenijjpcaaGreatDoor
open Go Go.Sv Go.RowKit

/-- what the reference says of a text -/
def refTextR (s : List Nm) (blank : Bool) : PlanR :=
  if topR s = nTextarea then errR 0
  else if blank && (decide (0 < (innerP (topR (innerS s))).length) || decide ((innerS s).length < s.length)) then ⟨0, [], true, 0⟩
  else planR s (innerR s)
theorem innerP_pos (n : Nm) : decide (0 < (innerP n).length) = (decide (n = nTable) || isGroup n || decide (n = nTr) || isLst n || decide (n = nDl)) := by
  unfold innerP
  by_cases h1 : n = nTable
  · simp [h1]
  rw [if_neg h1]
  cases h2 : isGroup n with
  | true => simp
  | false =>
    rw [if_neg Bool.false_ne_true]
    by_cases h3 : n = nTr
    · simp [h3]
    rw [if_neg h3]
    cases h4 : isLst n with
    | true => simp
    | false =>
      rw [if_neg Bool.false_ne_true]
      by_cases h5 : n = nDl
      · simp [h5]
      · simp [h1, h3, h5]
end Go.Proofs.YtmnnffenijjpcaaGreatDoor

/-
  Package balance, as a law of lists: what a token does; its events are good, each for itself.
-/
set_option linter.unusedSimpArgs false
set_option linter.unusedVariables false
set_option linter.unnecessarySimpa false
namespace Go.Proofs.YtmnnffenijjpcaaGreatDoor
open Go Go.Sv Go.RowKit

/-- a finding -/
structure Fi where
  a : Int
  b : Int
  d : Int
  why : Int
  name : List UInt8
  deriving DecidableEq
def Fi.cells (f : Fi) : List Value := [int f.a, int f.b, int f.d, int f.why, str f.name]
theorem Fi.len (f : Fi) : f.cells.length = 5 := rfl
/-- what is open, the ghosts, is the last event one that opens pre or textarea -/
structure BaS where
  op : List Nm
  gh : List Nm
  fr : Bool
def isFr (n : Nm) : Bool := decide (n = nPre) || decide (n = nTextarea)
def opE (n : Nm) (es : List At) : Ev := ⟨1, n, [], es⟩
def voE (n : Nm) (es : List At) : Ev := ⟨3, n, [], es⟩
def txE (x : Nm) : Ev := ⟨0, [], x, []⟩
def fiT (t : Tok) (y : Int) (n : Nm) : Fi := ⟨t.a, t.b, t.d, y, n⟩
def pushB (s : BaS) (n : Nm) : BaS := ⟨s.op ++ [n], s.gh, isFr n⟩
def popB (s : BaS) (k : Nat) : BaS := if k = 0 then s else ⟨s.op.take (s.op.length - k), [], false⟩
/-- the names that are closed, from the top -/
def offN (s : List Nm) (k : Nat) : List Nm := (s.drop (s.length - k)).reverse
def pushesB (s : BaS) (l : List Nm) : BaS := l.foldl pushB s
def followB (s : BaS) (p : PlanR) : BaS := pushesB (popB s p.ends) p.put
def followE (s : BaS) (p : PlanR) : List Ev := (offN s.op p.ends).map closeE ++ p.put.map fun n => opE n []
def followF (t : Tok) (p : PlanR) : List Fi := p.put.map (fiT t 9)
structure OutB where
  s : BaS
  es : List Ev
  fs : List Fi
def startB (depth : Nat) (s : BaS) (t : Tok) : OutB :=
  if isAllow t.name = false then ⟨s, [], [fiT t 0 t.name]⟩
  else if depth < s.op.length - (planR s.op (askR s.op t.name)).ends + (planR s.op (askR s.op t.name)).put.length + 1 then
    ⟨if isVoid t.name then s else ⟨s.op, s.gh ++ [t.name], s.fr⟩, [], [fiT t 8 t.name]⟩
  else if isVoid t.name then
    ⟨⟨(followB s (planR s.op (askR s.op t.name))).op, (followB s (planR s.op (askR s.op t.name))).gh, false⟩, followE s (planR s.op (askR s.op t.name)) ++ [voE t.name t.attrs], followF t (planR s.op (askR s.op t.name))⟩
  else ⟨pushB (followB s (planR s.op (askR s.op t.name))) t.name, followE s (planR s.op (askR s.op t.name)) ++ [opE t.name t.attrs], followF t (planR s.op (askR s.op t.name))⟩
/-- a text without the line ends at its head -/
def lfR (x : List UInt8) : List UInt8 := x.dropWhile fun c => decide (c = 10)
def headB (s : BaS) (t : Tok) : List UInt8 := if s.fr then lfR t.text else t.text
def isBlank (x : List UInt8) : Bool := x.all blkR
def textB (depth : Nat) (s : BaS) (t : Tok) : OutB :=
  if headB s t = [] then ⟨s, [], []⟩
  else if (nTextR s.op (isBlank (headB s t))).drop then ⟨s, [], []⟩
  else if depth < s.op.length - (nTextR s.op (isBlank (headB s t))).ends + (nTextR s.op (isBlank (headB s t))).put.length then ⟨s, [], [fiT t 8 []]⟩
  else ⟨⟨(followB s (nTextR s.op (isBlank (headB s t)))).op, (followB s (nTextR s.op (isBlank (headB s t)))).gh, false⟩, followE s (nTextR s.op (isBlank (headB s t))) ++ [txE (headB s t)], followF t (nTextR s.op (isBlank (headB s t)))⟩
/-- the last place of a name -/
def lastK (n : Nm) (l : List Nm) : Nat → Option Nat
  | 0 => none
  | k + 1 => if l.getD k [] = n then some k else lastK n l k
def endB (s : BaS) (t : Tok) : OutB :=
  match lastK t.name s.gh s.gh.length with
  | some i => ⟨⟨s.op, s.gh.take i, s.fr⟩, [], []⟩
  | none => if (endR s.op t.name).1 = 0 then ⟨s, [], [fiT t 7 t.name]⟩ else ⟨popB s (endR s.op t.name).1, (offN s.op (endR s.op t.name).1).map closeE, []⟩
def takeB (depth : Nat) (s : BaS) (t : Tok) : OutB :=
  if t.kind = 1 then startB depth s t else if t.kind = 0 then textB depth s t else if t.kind = 2 then endB s t else ⟨s, [], []⟩
def runB (depth : Nat) : BaS → List Tok → OutB
  | s, [] => ⟨s, [], []⟩
  | s, t :: l => ⟨(runB depth (takeB depth s t).s l).s, (takeB depth s t).es ++ (runB depth (takeB depth s t).s l).es, (takeB depth s t).fs ++ (runB depth (takeB depth s t).s l).fs⟩
def ba0 : BaS := ⟨[], [], false⟩
def allE (depth : Nat) (l : List Tok) : List Ev := (runB depth ba0 l).es ++ (offN (runB depth ba0 l).s.op (runB depth ba0 l).s.op.length).map closeE
def allF (depth : Nat) (l : List Tok) : List Fi := (runB depth ba0 l).fs
def allC (depth : Int) (l : List Tok) : Int := if depth < 1 ∨ 512 < depth then 1 else if l.all mayR then 0 else 70

theorem runB_app (depth : Nat) (l l' : List Tok) : ∀ s, runB depth s (l ++ l') = ⟨(runB depth (runB depth s l).s l').s, (runB depth s l).es ++ (runB depth (runB depth s l).s l').es, (runB depth s l).fs ++ (runB depth (runB depth s l).s l').fs⟩ := by
  induction l with
  | nil => intro s; rfl
  | cons t l ih => intro s; simp only [List.cons_append, runB, ih, List.append_assoc]

/-! ## what is good: an event, where it stands -/
/-- what is open, and whether the last event opens pre or textarea -/
abbrev Pos := List Nm × Bool
def nextE (x : Pos) (e : Ev) : Pos :=
  if e.kind = 1 then (x.1 ++ [e.name], isFr e.name) else if e.kind = 2 then (x.1.dropLast, false) else (x.1, false)
/-- attributes that may be, and are small -/
def SmA (es : List At) : Prop := attrsR es = true ∧ es.length ≤ 1048576 ∧ ∀ x ∈ es, x.small
inductive GoodE (depth : Nat) : Pos → Ev → Prop
  | opens {o f n es} : isAllow n = true → isVoid n = false → Still o n → o.length + 1 ≤ depth → SmA es → GoodE depth (o, f) (opE n es)
  | voids {o f n es} : isAllow n = true → isVoid n = true → Still o n → o.length + 1 ≤ depth → SmA es → GoodE depth (o, f) (voE n es)
  | closes {o f n} : rightR (o ++ [n]) = true → GoodE depth (o ++ [n], f) (closeE n)
  | texts {o f x} : x ≠ [] → validR x = true ∧ x.length ≤ 1048576 → (f = true → x.head? ≠ some 10) → (nTextR o (isBlank x)).drop = false → (nTextR o (isBlank x)).ends = 0 → (nTextR o (isBlank x)).put = [] → GoodE depth (o, f) (txE x)
inductive GoodL (depth : Nat) : Pos → List Ev → Pos → Prop
  | nil {x} : GoodL depth x [] x
  | cons {x e l y} : GoodE depth x e → GoodL depth (nextE x e) l y → GoodL depth x (e :: l) y
theorem GoodL.app {depth : Nat} {x y z : Pos} {l l' : List Ev} (h : GoodL depth x l y) (h' : GoodL depth y l' z) : GoodL depth x (l ++ l') z := by
  induction h with
  | nil => exact h'
  | cons h1 _ ih => exact .cons h1 (ih h')
theorem GoodL.one {depth : Nat} {x : Pos} {e : Ev} (h : GoodE depth x e) : GoodL depth x [e] (nextE x e) := .cons h .nil
/-- what is open stays right, and within the cap -/
def PosR (depth : Nat) (x : Pos) : Prop := rightR x.1 = true ∧ x.1.length ≤ depth
theorem next_right {depth : Nat} {x : Pos} {e : Ev} (h : GoodE depth x e) (hx : PosR depth x) : PosR depth (nextE x e) := by
  cases h with
  | opens h1 h2 h3 h4 _ =>
    refine ⟨?_, by simpa [nextE, opE] using h4⟩
    show rightR (_ ++ [_]) = true
    exact right_iff.2 ⟨hx.1, h1, h2, h3⟩
  | voids _ _ _ _ _ => exact hx
  | closes h1 =>
    refine ⟨?_, ?_⟩
    · show rightR (List.dropLast (_ ++ [_])) = true
      rw [List.dropLast_concat]; exact (right_iff.1 h1).1
    · have := hx.2
      show (List.dropLast (_ ++ [_])).length ≤ depth
      rw [List.dropLast_concat]
      rw [List.length_append] at this
      omega
  | texts _ _ _ _ _ _ => exact hx
theorem GoodL.right {depth : Nat} {x y : Pos} {l : List Ev} (h : GoodL depth x l y) (hx : PosR depth x) : PosR depth y := by
  induction h with
  | nil => exact hx
  | cons h1 _ ih => exact ih (next_right h1 hx)
/-! ## closing -/
theorem offN_zero (s : List Nm) : offN s 0 = [] := by simp [offN]
theorem offN_snoc (s : List Nm) (x : Nm) (k : Nat) (hk : k ≤ s.length) : offN (s ++ [x]) (k + 1) = x :: offN s k := by
  unfold offN
  rw [List.length_append, List.length_singleton, show s.length + 1 - (k + 1) = s.length - k by omega, List.drop_append_of_le_length (by omega)]
  simp
theorem popB_snoc (s : List Nm) (x : Nm) (g : List Nm) (f : Bool) (k : Nat) (hk : k ≤ s.length) : popB ⟨s ++ [x], g, f⟩ (k + 1) = popB ⟨s, [], false⟩ k := by
  unfold popB
  rw [if_neg (by omega)]
  dsimp only
  rw [List.length_append, List.length_singleton, show s.length + 1 - (k + 1) = s.length - k by omega, List.take_append_of_le_length (by omega)]
  split
  · rename_i h; subst h; simp
  · rfl
theorem close_good {depth : Nat} : ∀ (k : Nat) (o g : List Nm) (f : Bool), k ≤ o.length → rightR o = true → GoodL depth (o, f) ((offN o k).map closeE) ((popB ⟨o, g, f⟩ k).op, (popB ⟨o, g, f⟩ k).fr)
  | 0, o, g, f, _, _ => by rw [offN_zero]; exact .nil
  | k + 1, o, g, f, hk, hr => by
    rcases snoc_cases o with rfl | ⟨t, x, rfl⟩
    · simp at hk
    · have hk' : k ≤ t.length := by simpa using hk
      rw [offN_snoc _ _ _ hk', popB_snoc _ _ _ _ _ hk']
      refine .cons (.closes hr) ?_
      have e : nextE (t ++ [x], f) (closeE x) = (t, false) := by
        show ((t ++ [x]).dropLast, false) = _
        rw [List.dropLast_concat]
      rw [e]
      exact close_good k t [] false hk' (right_iff.1 hr).1
/-! ## opening -/
theorem pushes_op : ∀ (l : List Nm) (s : BaS), (pushesB s l).op = s.op ++ l ∧ (pushesB s l).gh = s.gh
  | [], s => by simp [pushesB]
  | x :: l, s => by
    have := pushes_op l (pushB s x)
    exact ⟨by show (pushesB (pushB s x) l).op = _; rw [this.1]; simp [pushB], this.2⟩
theorem pushes_good {depth : Nat} : ∀ (l : List Nm) (s : BaS), rightR (s.op ++ l) = true → s.op.length + l.length ≤ depth → GoodL depth (s.op, s.fr) (l.map fun n => opE n []) ((pushesB s l).op, (pushesB s l).fr)
  | [], s, _, _ => .nil
  | x :: l, s, hr, hd => by
    have h1 : rightR (s.op ++ [x] ++ l) = true := by simpa using hr
    have h2 := right_iff.1 (right_pre _ _ h1)
    simp only [List.length_cons] at hd
    refine .cons (.opens h2.2.1 h2.2.2.1 h2.2.2.2 (by omega) ⟨rfl, by simp, by simp⟩) ?_
    exact pushes_good l (pushB s x) (by simpa [pushB] using hr) (by simp [pushB]; omega)
theorem follow_good {depth : Nat} (s : BaS) (p : PlanR) (hr : rightR s.op = true) (hk : p.ends ≤ s.op.length) (h2 : rightR (s.op.take (s.op.length - p.ends) ++ p.put) = true) (hd : s.op.length - p.ends + p.put.length ≤ depth) :
    GoodL depth (s.op, s.fr) (followE s p) ((followB s p).op, (followB s p).fr) ∧ (followB s p).op = s.op.take (s.op.length - p.ends) ++ p.put := by
  have e : (popB s p.ends).op = s.op.take (s.op.length - p.ends) := by
    unfold popB
    split
    · rename_i h; rw [h]; simp
    · rfl
  refine ⟨(close_good p.ends s.op s.gh s.fr hk hr).app ?_, ?_⟩
  · refine pushes_good p.put (popB s p.ends) (by rw [e]; exact h2) ?_
    rw [e, List.length_take]; omega
  · unfold followB
    rw [(pushes_op p.put _).1, e]
/-! ## texts -/
theorem lf_app (x : List UInt8) : ∃ k, lfR x = x.drop k ∧ (∀ i, i < k → x[i]? = some 10) := by
  induction x with
  | nil => exact ⟨0, rfl, by simp⟩
  | cons c x ih =>
    by_cases hc : c = 10
    · obtain ⟨k, h1, h2⟩ := ih
      refine ⟨k + 1, ?_, ?_⟩
      · unfold lfR; rw [List.dropWhile_cons, if_pos (by simpa using hc)]; exact h1
      · intro i hi
        cases i with
        | zero => simp [hc]
        | succ i => simpa using h2 i (by omega)
    · exact ⟨0, by unfold lfR; rw [List.dropWhile_cons, if_neg (by simpa using hc)]; rfl, by simp⟩
theorem lf_head (x : List UInt8) : (lfR x).head? ≠ some 10 := by
  induction x with
  | nil => simp [lfR]
  | cons c x ih =>
    unfold lfR
    rw [List.dropWhile_cons]
    split
    · exact ih
    · rename_i h
      simp only [List.head?_cons]
      intro hh
      exact h (by simpa using hh)
end Go.Proofs.YtmnnffenijjpcaaGreatDoor

/-
  A balancer in memory; slices that can be read as pieces; append behind a slice whose capacity is its length.
-/
set_option linter.unusedSimpArgs false
set_option linter.unusedVariables false
set_option linter.unnecessarySimpa false
namespace Go.Sv
open Go Go.RowKit
section
variable {w0 w : World} {cs : List Plot} {q : Option Addr} {l : List Value}
/-- a record's own row into the many -/
theorem Sep.tell {b : Nat} {vs xs : List Value} {p : Option Addr} {s n c : Nat} {A B C D F : Plot} {rs : List RowD} (h : Sep w0 w (pOwn b vs :: pRow s p n c xs :: A :: B :: C :: D :: pMany rs :: F :: cs)) : Sep w0 w (A :: B :: C :: D :: pMany (rs ++ [⟨s, p, n, c, xs⟩]) :: F :: cs) :=
  (((h.tail.front 5 rfl).front 1 rfl).more).sel 6 [1, 2, 3, 4, 0, 5]
theorem Sep.tell1 {xs : List Value} {p : Option Addr} {s n c : Nat} {A B C D F : Plot} {rs : List RowD} (h : Sep w0 w (pRow s p n c xs :: A :: B :: C :: D :: pMany rs :: F :: cs)) : Sep w0 w (A :: B :: C :: D :: pMany (rs ++ [⟨s, p, n, c, xs⟩]) :: F :: cs) :=
  (((h.front 5 rfl).front 1 rfl).more).sel 6 [1, 2, 3, 4, 0, 5]
end
section
variable {P : Program} {k : Nat} {ds : Ctx} {ops : Array Oper} {Q : Exit → Ctx → Env → World → Prop} {rest : List Oper} {σ : GE} {w0 w : World} {v : Value} {d : Nat} {ty t t' e e' : TypeId} {pos : String} {af : Array Edge} {x y : Operand} {z : Value} {size bytes : Nat} {p q : Option Addr} {xs news : List Value} {n m c c' : Nat} {cs : List Plot}
end
end Go.Sv
namespace Go.Proofs.YtmnnffenijjpcaaGreatDoor
open Go Go.Sv Go.RowKit

/-- a balancer: what it knows, and where that lies -/
structure BaM where
  s : BaS
  qo : Option Addr
  co : Nat
  qg : Option Addr
  cg : Nat
  ms : List EvM
  qt : Option Addr
  ct : Nat
  fs : List Fi
  qf : Option Addr
  cf : Nat
  dp : Nat
  ov : Bool
def BaM.cells (m : BaM) : List Value := [.slice m.qo m.s.op.length m.co, .slice m.qg m.s.gh.length m.cg, .bool m.s.fr, .slice m.qt m.ms.length m.ct, int m.dp, .slice m.qf m.fs.length m.cf, .bool true, .bool m.ov]
def BaM.plots (m : BaM) (b : Nat) (cs : List Plot) : List Plot := pOwn b m.cells :: pVw m.qo (strs m.s.op) :: pVw m.qg (strs m.s.gh) :: pRow 4 m.qt m.ms.length m.ct (m.ms.flatMap EvM.cells) :: pMany (m.ms.map EvM.row) :: pRow 5 m.qf m.fs.length m.cf (m.fs.flatMap Fi.cells) :: cs
/-- what a step makes of it -/
structure BaM.to (m m' : BaM) (s : BaS) (es : List Ev) (fs : List Fi) : Prop where
  s : m'.s = s
  es : evs m'.ms = evs m.ms ++ es
  fs : m'.fs = m.fs ++ fs
  dp : m'.dp = m.dp
  ov : m'.ov = m.ov
  co : m'.s.op.length ≤ m'.co
  cg : m'.s.gh.length ≤ m'.cg
theorem BaM.to.trans {m m' m'' : BaM} {s s' : BaS} {es es' : List Ev} {fs fs' : List Fi} (h : m.to m' s es fs) (h' : m'.to m'' s' es' fs') : m.to m'' s' (es ++ es') (fs ++ fs') :=
  ⟨h'.s, by rw [h'.es, h.es, List.append_assoc], by rw [h'.fs, h.fs, List.append_assoc], by rw [h'.dp, h.dp], by rw [h'.ov, h.ov], h'.co, h'.cg⟩
/-- behind a step -/
def BaP (m : BaM) (b : Nat) (s : BaS) (es : List Ev) (fs : List Fi) (w0 : World) (cs : List Plot) (w : World) : Prop := ∃ m' : BaM, m.to m' s es fs ∧ Sep w0 w (m'.plots b cs)
theorem fi_one (f : Fi) : ∀ u ∈ f.cells, u.oneCell' = true := by simp [Fi.cells, Value.oneCell']
theorem fis_flat (ns : List Fi) (f : Fi) : ns.flatMap Fi.cells ++ f.cells = (ns ++ [f]).flatMap Fi.cells := by simp
end Go.Proofs.YtmnnffenijjpcaaGreatDoor

/-
  Regions that draw their order, by a plan for the first operations; the rest in order.
-/
set_option linter.unusedSimpArgs false
set_option linter.unusedVariables false
set_option linter.unnecessarySimpa false
namespace Go.Sv
open Go Go.RowKit
/-- the first n1 are done, the rest not -/
def heads (n1 size : Nat) : Array Bool := ((List.range size).map fun i => decide (i < n1)).toArray
section
variable {P : Program} {n : Nat} {ds : Ctx} {Q : Exit → Ctx → Env → World → Prop} {S : (Nat → Bool) → Env → World → Prop} {σ : Env} {w : World} {m : Nat}
theorem wpAnyIn_of_seqF {F : Fence} {md : Region.Mode} {ops : Array Oper} {Q' : Exit → Act → World → Prop} : ∀ (l : List Oper) (k : Nat) (listed : Array Bool) (a : Act) (w : World), (∀ j, l[j]? = ops[k + j]?) →
    Region.seqB md ops l.length k listed = true → wpListIn F m P ops Q' l a w → wpAnyIn F m P md ops Q' l.length listed a w
  | [], _, _, _, _, _, hB, h => ⟨by simpa [Region.seqB] using hB, h⟩
  | o :: l, k, listed, a, w, hl, hB, h => by
    have h0 : ops[k]? = some o := by simpa using (hl 0).symm
    simp only [List.length_cons, Region.seqB, Bool.and_eq_true, decide_eq_true_eq] at hB
    refine ⟨fun h1 => (by rw [hB.1] at h1; cases h1), fun i hi => ?_⟩
    rw [hB.1] at hi
    have hik : i = k := by simpa using hi
    subst hik
    have hw : wpOpIn F m P ops Q' i (wpListIn F m P ops Q' l) a w := by unfold wpOpIn; simp only [h0]; exact h
    exact wpOpIn_mono (fun a' w' h' => wpAnyIn_of_seqF l (i + 1) _ a' w' (fun j => by have := hl (j + 1); simpa [Nat.add_assoc, Nat.add_comm 1 j] using this) hB.2 h') hw
theorem wpAnyIn_of_IT {ops : Array Oper} {dd : List Deferred} {Q' : Exit → Act → World → Prop} {n1 : Nat} {l2 : List Oper} {ro : Option Nat} (hs : Region.sinkB .any ops n1 = true) (hc : Region.chainB .any ops n1 = true) (hn : n1 < ops.size) (hf : fwdB ops = true)
    (hin : ops.toList.all (operIn n ro.isSome ops) = true) (hop : ∀ k o, k < n1 → ops[k]? = some o → StepI P ops S k o) (hl2 : ∀ j, l2[j]? = ops[n1 + j]?) (hB2 : Region.seqB .any ops l2.length n1 (heads n1 ops.size) = true)
    (hQ : ∀ L σ w, (∀ k, k < n1 → L k = true) → (∀ k, n1 ≤ k → L k = false) → S L σ w → wpListIn (fen ro) m P ops Q' l2 (act n dd σ) w) :
    ∀ (f : Nat) (listed : Array Bool) (σ : Env) (w : World), HeadInv .any ops n1 listed → (listed.toList.take n1).count false = f → S (fl listed) σ w → wpAnyIn (fen ro) m P .any ops Q' (f + l2.length) listed (act n dd σ) w
  | 0, listed, σ, w, inv, hcnt, hS => by
    have hsz := inv.size
    have hfirst : ∀ i, i < n1 → ∀ h : i < listed.size, listed[i] = true := by
      intro i hi h
      cases hb : listed[i] with
      | true => rfl
      | false =>
        exfalso
        have : false ∈ listed.toList.take n1 := by
          rw [List.mem_iff_getElem]
          exact ⟨i, by simp; omega, by simp [hb]⟩
        have := List.count_pos_iff.2 this
        omega
    have hrest : ∀ i, n1 ≤ i → ∀ h : i < listed.size, listed[i] = false := by
      intro i hi h
      have := inv.tail i hi (by omega)
      simpa [h] using this
    have he : listed = heads n1 ops.size := by
      apply Array.ext
      · simp [heads, hsz]
      · intro i h1 h2
        simp only [heads, List.getElem_toArray, List.getElem_map, List.getElem_range]
        rcases Nat.lt_or_ge i n1 with h | h
        · rw [hfirst i h h1, decide_eq_true h]
        · rw [hrest i h h1, decide_eq_false (by omega)]
    rw [Nat.zero_add]
    refine wpAnyIn_of_seqF l2 n1 listed _ w hl2 (by rw [he]; exact hB2) (hQ (fl listed) σ w (fun k hk => ?_) (fun k hk => ?_) hS)
    · have h1 : k < listed.size := by omega
      simp [fl, h1, hfirst k hk h1]
    · rcases Nat.lt_or_ge k listed.size with h1 | h1
      · simp [fl, h1, hrest k hk h1]
      · simp [fl, Array.getElem?_eq_none h1]
  | f + 1, listed, σ, w, inv, hcnt, hS => by
    have hsz := inv.size
    have hmem : false ∈ listed.toList.take n1 := List.count_pos_iff.1 (by omega)
    obtain ⟨u, hu1, hu2⟩ := List.mem_iff_getElem.1 hmem
    have hun : u < n1 := by simp at hu1; omega
    have hul : u < listed.size := by simp at hu1; omega
    have hu3 : listed[u] = false := by simpa using hu2
    rw [show f + 1 + l2.length = (f + l2.length) + 1 from by omega]
    refine ⟨fun hr => ?_, fun i hi => ?_⟩
    · exfalso
      have := ready_of_fwd hf hsz hr u (by omega)
      simp [fl, hul, hu3] at this
    · have hin1 : i < n1 := by
        rcases Nat.lt_or_ge i n1 with h | h
        · exact h
        · exact absurd hi (tail_waits hs hc hn inv _ u rfl hun (by simp [hul, hu3]) i h)
      obtain ⟨h0, o, ho, hall⟩ := mem_ready.1 hi
      have hio : i < ops.size := (Array.getElem?_eq_some_iff.1 ho).1
      have hlt : i < listed.size := by omega
      have h0' : listed[i] = false := by simpa [hlt] using h0
      have hup : Up ops o i (fl listed) := by
        refine ⟨by simp [fl, hlt, h0'], ?_, ?_⟩
        · intro j hj
          obtain ⟨e, he, hb, rfl⟩ := bindsOn_iff.1 hj
          exact hall e he hb
        · intro j oj hj hb
          cases hL : fl listed j with
          | false => rfl
          | true =>
            obtain ⟨e, he, hb1, hb2⟩ := bindsOn_iff.1 hb
            have h2 := inv.closed j oj hj hL e he hb1
            rw [hb2] at h2
            simp [hlt, h0'] at h2
      have hino : operIn n ro.isSome ops o = true := by
        rw [List.all_eq_true] at hin
        exact hin o (by simpa using Array.mem_of_getElem? ho)
      refine wpOpIn_of_I hino ho (hop i o hin1 ho _ σ w hup hS) fun v w' hw' => ?_
      rw [act_put (operIn_dst hino)]
      refine wpAnyIn_of_IT hs hc hn hf hin hop hl2 hB2 hQ f _ _ _ (inv.set hi hin1) ?_ (by rw [fl_set hlt]; exact hw')
      rw [Array.toList_setIfInBounds, List.take_set, List.count_set]
      · have hb : (listed.toList.take n1)[i]'(by simp; omega) = false := by simpa using h0'
        rw [hb]; simp only [beq_self_eq_true, if_true]; simp; omega
      · simp; omega
theorem wcdrawit [hm : Mix P] {id : Nat} {ops l2 : List Oper} (n1 : Nat) (S : (Nat → Bool) → Env → World → Prop) (h0 : ∀ wd, Frm w wd → S (fun _ => false) σ wd) (hop : ∀ k o, k < n1 → ops[k]? = some o → StepI P ops.toArray S k o)
    (hend : ∀ L σ' w', (∀ k, k < n1 → L k = true) → (∀ k, n1 ≤ k → L k = false) → S L σ' w' → WL P n ds ops.toArray Q l2 σ' w') (hl2 : ops.drop n1 = l2)
    (hB : Region.lexTailB .any ops.toArray n1 = true) (hB2 : Region.seqB .any ops.toArray l2.length n1 (heads n1 ops.toArray.size) = true) (hf : fwdB ops.toArray = true) : WC P n ds (.region id ops.toArray true) Q σ w := by
  obtain ⟨dd, ro⟩ := ds
  unfold WC
  intro hin
  have hin' : ops.all (operIn n ro.isSome ops.toArray) = true := by simpa [codeIn] using hin
  simp only [Region.lexTailB, Bool.and_eq_true, decide_eq_true_eq] at hB
  obtain ⟨⟨⟨⟨hsel, hn⟩, hs⟩, hc⟩, hlex⟩ := hB
  refine wpIn_region_any hm.ok ?_
  have e0 : fl (Array.replicate ops.toArray.size false) = fun _ => false := by funext k; exact getD_replicate_false _ _
  have inv0 : HeadInv .any ops.toArray n1 (Array.replicate ops.toArray.size false) :=
    ⟨by simp, fun j oj _ hl => (by rw [getD_replicate_false] at hl; cases hl), fun t _ h9 => getD_in (by simp only [Array.size_replicate]; exact h9) (getD_replicate_false _ _)⟩
  have hl3 : ∀ j : Nat, l2[j]? = ops.toArray[n1 + j]? := fun j => by subst hl2; simp
  have hnl : n1 < ops.length := by simpa using hn
  have hsum : ops.toArray.size = n1 + l2.length := by subst hl2; simp; omega
  have := wpAnyIn_of_IT (S := S) (n := n) (m := 0) (dd := dd) (l2 := l2) hs hc hn hf (by simpa using hin') (fun k o hk ho => hop k o hk (by simpa using ho)) hl3 hB2
    (fun L σ' w' h1 h2 h3 => by
      have hw := hend L σ' w' h1 h2 h3
      unfold WL at hw
      refine hw ?_
      rw [List.all_eq_true] at hin' ⊢
      intro x hx
      subst hl2
      exact hin' x (List.mem_of_mem_drop hx))
    n1 _ σ { w with drawn := w.drawn + 1 } inv0 (by simp; omega) (by rw [e0]; exact h0 _ (Frm.drawn (Frm.refl w)))
  rw [← hsum] at this
  exact this
variable {X : Type}
/-- a region that draws: a plan for the first n1, the rest in order -/
theorem wcplant [hm : Mix P] {w0 : World} {id : Nat} {ops l1 l2 : List Oper} {x : Oper} {cs b : List Plot} (n1 : Nat) (p : PlanB X) (d0 : PD X) (hS : Sep w0 w (b ++ cs)) (hb : (List.range ops.length).flatMap p.base = b)
    (hF : ∀ (j : Nat) (oj : Oper) (a a' : Nat → PD X), ops[j]? = some oj → a j = a' j → (∀ i, bindsOn oj i = true → a i = a' i) → p.fact j a → p.fact j a')
    (hR : p.Rules P w0 cs σ ops 0 l1)
    (hend : ∀ (a : Nat → PD X) σ' w', (∀ s, (∀ (k : Nat) (o : Oper), l1[k]? = some o → o.dst ≠ some s) → σ' s = σ s) → (∀ (k : Nat) (o : Oper), l1[k]? = some o → (∀ d, o.dst = some d → σ' d = (a k).v) ∧ p.fact k a) →
      Sep w0 w' (((List.range n1).filter fun j => (p.con j).isNone).flatMap (fun j => p.pl j (a j)) ++ cs) → WL P n ds ops.toArray Q (x :: l2) σ' w')
    (hp : Parts n1 ops l1 x l2 := by repeat (first | exact Go.Sv.Parts.zero | apply Go.Sv.Parts.step)) (hB : planB p.con ops = true := by kernel_rfl) (hcon : ((List.range n1).all fun j => match p.con j with | some c => decide (c < n1) | none => true) = true := by kernel_rfl) (hbase : (List.range' n1 (ops.length - n1)).flatMap p.base = [] := by rfl)
    (hBt : Region.lexTailB .any ops.toArray n1 = true := by kernel_rfl) (hB2 : Region.seqB .any ops.toArray (x :: l2).length n1 (heads n1 ops.toArray.size) = true := by kernel_rfl) (hf : fwdB ops.toArray = true := by kernel_rfl) : WC P n ds (.region id ops.toArray true) Q σ w := by
  have hl : ops.take n1 = l1 ∧ ops.drop n1 = x :: l2 := by
    obtain ⟨h1, h2⟩ := hp
    subst h1
    subst h2
    exact ⟨List.take_left, List.drop_left⟩
  have hn1 : n1 < ops.length := by
    simp only [Region.lexTailB, Bool.and_eq_true, decide_eq_true_eq] at hBt
    simpa using hBt.1.1.1.2
  have hget : ∀ k o, k < n1 → (ops[k]? = some o ↔ l1[k]? = some o) := by
    intro k o hk
    rw [← hl.1, List.getElem?_take, if_pos hk]
  have hlen : l1.length = n1 := by rw [← hl.1, List.length_take]; omega
  have hsteps := planb_steps hB hF l1 0 (fun j o h => by
    rw [Nat.zero_add]
    have hj : j < n1 := by rw [← hlen]; exact (List.getElem?_eq_some_iff.1 h).1
    exact (hget j o hj).2 h) hR
  refine wcdrawit n1 (p.S w0 cs σ ops) (fun wd hwd => ⟨fun _ _ => rfl, fun _ => d0, fun _ _ _ h => absurd h Bool.false_ne_true, ?_⟩) (fun k o hk ho => ?_) ?_ hl.2 hBt hB2 hf
  · have e : p.mem ops.length (fun _ => false) (fun _ => d0) = [] := by
      unfold PlanB.mem
      rw [List.filter_eq_nil_iff.2 (by intro j _; simp [PlanB.live])]
      rfl
    have e2 : p.bmem ops.length (fun _ => false) = b := by
      rw [← hb]; unfold PlanB.bmem
      rw [List.filter_eq_self.2 (by intro j _; rfl)]
    rw [e, e2]
    exact hS.grow hwd
  · have := stepsI_get hsteps k o ((hget k o hk).1 ho)
    rwa [Nat.zero_add] at this
  · rintro L σ' w' hL1 hL2 ⟨hσ, a, hA, hS'⟩
    have hk1 : ∀ {k : Nat} {o : Oper}, l1[k]? = some o → k < n1 := fun h => by rw [← hlen]; exact (List.getElem?_eq_some_iff.1 h).1
    refine hend a σ' w' (fun s hs => hσ s fun k o hk hLk => ?_) (fun k o hk => hA k o ((hget k o (hk1 hk)).2 hk) (hL1 k (hk1 hk))) ?_
    · rcases Nat.lt_or_ge k n1 with h | h
      · exact hs k o ((hget k o h).1 hk)
      · rw [hL2 k h] at hLk; cases hLk
    · have e2 : p.bmem ops.length L = [] := by
        unfold PlanB.bmem
        have hr : (List.range ops.length).filter (fun j => !L j) = List.range' n1 (ops.length - n1) := by
          have h1 : List.range ops.length = List.range n1 ++ List.range' n1 (ops.length - n1) := by
            rw [List.range_eq_range', List.range_eq_range']
            have := List.range'_append (s := 0) (m := n1) (n := ops.length - n1) (step := 1)
            simp only [Nat.zero_add, Nat.one_mul] at this
            rw [this]
            congr 1; omega
          rw [h1, List.filter_append, List.filter_eq_nil_iff.2 (by intro j hj; simp [hL1 j (List.mem_range.1 hj)]), List.filter_eq_self.2 (by intro j hj; simp [hL2 j (List.mem_range'_1.1 hj).1])]
          rfl
        rw [hr, hbase]
      rw [e2] at hS'
      refine hS'.perm (List.Perm.append_right _ (List.Perm.of_eq ?_))
      unfold PlanB.mem
      congr 1
      have h1 : List.range ops.length = List.range n1 ++ List.range' n1 (ops.length - n1) := by
        rw [List.range_eq_range', List.range_eq_range']
        have := List.range'_append (s := 0) (m := n1) (n := ops.length - n1) (step := 1)
        simp only [Nat.zero_add, Nat.one_mul] at this
        rw [this]
        congr 1; omega
      have h9 : (List.range' n1 (ops.length - n1)).filter (p.live L) = [] := List.filter_eq_nil_iff.2 (by intro j hj; simp [PlanB.live, hL2 j (List.mem_range'_1.1 hj).1])
      rw [h1, List.filter_append, h9, List.append_nil]
      refine List.filter_congr fun j hj => ?_
      have h2 := hL1 j (List.mem_range.1 hj)
      simp only [PlanB.live, h2, Bool.true_and]
      cases hc : p.con j with
      | none => rfl
      | some c =>
        have := List.all_eq_true.1 hcon j hj
        rw [hc] at this
        simp only [decide_eq_true_eq] at this
        simp [hL1 c this]
end
end Go.Sv

/-
  Package balance: push, pop, New, ready, find.
-/
set_option linter.unusedSimpArgs false
set_option linter.unusedVariables false
set_option linter.unnecessarySimpa false
namespace Go.Proofs.YtmnnffenijjpcaaGreatDoor
open Go Go.Sv Go.RowKit

def puP (b : Nat) (qo : Option Addr) (co : Nat) (op : List Nm) (nm : Nm) : PlanB Unit where
  pl k d := match k with
    | 17 => [pOwn d.b [str nm]]
    | 18 => [pRow 1 (pb d.b) (op.length + 1) d.c (strs op ++ [str nm])]
    | _ => []
  con k := match k with
    | 17 => some 18
    | _ => none
  base k := match k with
    | _ => []
  fact k a := match k with
    | 0 => (a 0).v = ptrAt (pb b) 0
    | 1 => (a 1).v = ptrAt (pb b) 0
    | 2 => (a 2).v = ptrAt (pb b) 0
    | 3 => (a 3).v = ptrAt (pb b) 0
    | 4 => (a 4).v = .slice qo op.length co
    | 5 => (a 5).v = ptrAt (pb b) 0
    | 6 => (a 6).v = ptrAt (pb b) 0
    | 7 => (a 7).v = ptrAt (pb b) 0
    | 8 => (a 8).v = .slice qo op.length co
    | 9 => (a 9).v = int op.length
    | 10 => (a 10).v = ptrAt (pb b) 0
    | 11 => (a 11).v = ptrAt (pb b) 0
    | 12 => (a 12).v = ptrAt (pb b) 0
    | 13 => (a 13).v = .slice qo op.length co
    | 14 => (a 14).v = int op.length
    | 15 => (a 15).v = .slice qo op.length op.length
    | 16 => (a 16).v = str nm
    | 17 => (a 17).v = .slice (pb (a 17).b) 1 1
    | 18 => (a 18).v = .slice (pb (a 18).b) (op.length + 1) (a 18).c
    | 19 => True
    | 20 => True
    | 21 => True
    | _ => True
set_option maxHeartbeats 4000000 in
theorem bPush_ok (m : BaM) (b : Nat) (nm : Nm) (es : List At) (p : Option Addr) (c : Nat) (hco : m.s.op.length ≤ m.co) (hcg : m.s.gh.length ≤ m.cg) (hol : m.s.op.length ≤ 4194304) (htl : m.ms.length ≤ 4194304) (w0 w : World) (cs : List Plot) (hS : Sep w0 w (pRow 2 p es.length c (es.flatMap At.cells) :: m.plots b cs)) :
    CallsR Tryz.prog 59 #[ptrAt (pb b) 0, str nm, .slice p es.length c] w fun _ w' => BaP m b (pushB m.s nm) [opE nm es] [] w0 cs w' := by
  obtain ⟨⟨op, gh, fr⟩, qo, co, qg, cg, ms, qt, ct, fs, qf, cf, dp, ov⟩ := m
  dsimp only at hco hcg hol htl
  have hsl := strs_len op
  replace hS : Sep w0 w (pRow 2 p es.length c (es.flatMap At.cells) :: pOwn b [.slice qo op.length co, .slice qg gh.length cg, .bool fr, .slice qt ms.length ct, int dp, .slice qf fs.length cf, .bool true, .bool ov] :: pVw qo (strs op) :: pVw qg (strs gh) :: pRow 4 qt ms.length ct (ms.flatMap EvM.cells) :: pMany (ms.map EvM.row) :: pRow 5 qf fs.length cf (fs.flatMap Fi.cells) :: cs) := hS
  refine enter (l := [ptrAt (pb b) 0, str nm, .slice p es.length c]) Tryz.func59 rfl Tryz.ntmps59 (by kernel_rfl) rfl ?_
  refine sgo ?_
  refine wlbuild (cells := [int 1, str nm, str [], .slice p es.length c]) ?_
  refine sgo ?_
  refine sb1a (vs := EvM.cells ⟨opE nm es, p, c⟩) hS fun b1 w1 hS => ?_
  refine sgo ?_
  refine sapp hS 5 (hS.own 0 rfl).sg (fun q2 c2 w2 hS => ?_) (h1 := ev_one _ _ _)
  rw [evs_flat] at hS
  refine sgo ?_
  refine sst_slice hS 2 fun w3 hS => ?_
  replace hS := Sep.tell hS
  replace hS : Sep w0 w3 (pOwn b [.slice qo op.length co, .slice qg gh.length cg, .bool fr, .slice q2 (ms.length + 1) c2, int dp, .slice qf fs.length cf, .bool true, .bool ov] :: pVw qo (strs op) :: pVw qg (strs gh) :: pRow 4 q2 (ms.length + 1) c2 ((ms ++ [EvM.mk (opE nm es) p c]).flatMap EvM.cells) :: pMany ((ms ++ [EvM.mk (opE nm es) p c]).map EvM.row) :: pRow 5 qf fs.length cf (fs.flatMap Fi.cells) :: cs) := by rw [List.map_append]; exact hS
  refine sgo ?_
  refine wcplant (b := []) 19 (puP b qo co op nm) ⟨.nilIface, none, 0, 0, ()⟩ hS rfl (fun j oj a a' hj he hd h => ?_) ?_ ?_
  · have hjl : j < 22 := (List.getElem?_eq_some_iff.1 hj).1
    match j, hjl with
    | 0, _ | 1, _ | 2, _ | 3, _ | 4, _ | 5, _ | 6, _ | 7, _ | 8, _ | 9, _ | 10, _ | 11, _ | 12, _ | 13, _ | 14, _ | 15, _ | 16, _ | 17, _ | 18, _ | 19, _ | 20, _ | 21, _ => first | (simp only [puP] at h ⊢; rw [← he]; exact h) | exact h
  · refine ⟨?_, ?_, ?_, ?_, ?_, ?_, ?_, ?_, ?_, ?_, ?_, ?_, ?_, ?_, ?_, ?_, ?_, ?_, ?_, trivial⟩
    · intro a σ' w' rest hσ hdep hS'   -- 0: move; pieces:  ..
      have e0 : σ' 0 = ptrAt (pb b) 0 := (hσ 0 (notDstB rfl)).trans rfl
      exact rule_e [(0, _)] ⟨e0, trivial⟩ ⟨⟨ptrAt (pb b) 0, none, 0, 0, ()⟩, rfl, rfl, hS'⟩
    · intro a σ' w' rest hσ hdep hS'   -- 1: move; pieces:  ..
      have e0 : σ' 0 = ptrAt (pb b) 0 := (hσ 0 (notDstB rfl)).trans rfl
      exact rule_e [(0, _)] ⟨e0, trivial⟩ ⟨⟨ptrAt (pb b) 0, none, 0, 0, ()⟩, rfl, rfl, hS'⟩
    · intro a σ' w' rest hσ hdep hS'   -- 2: nilCheck; pieces:  ..
      have f1 := (hdep 1 _ rfl rfl).2
      have e19 := ((hdep 1 _ rfl rfl).1 19 rfl).trans f1
      exact rule_y (y_nilcheckp e19 ⟨_, rfl⟩) ⟨⟨ptrAt (pb b) 0, none, 0, 0, ()⟩, rfl, rfl, hS'⟩
    · intro a σ' w' rest hσ hdep hS'   -- 3: fieldAddr; pieces:  ..
      have f2 := (hdep 2 _ rfl rfl).2
      have e20 := ((hdep 2 _ rfl rfl).1 20 rfl).trans f2
      exact rule_y (y_field e20 ⟨_, rfl⟩ (by decide)) ⟨⟨ptrAt (pb b) 0, none, 0, 0, ()⟩, rfl, rfl, hS'⟩
    · intro a σ' w' rest hσ hdep hS'   -- 4: load; pieces:  ..
      have f3 := (hdep 3 _ rfl rfl).2
      have e21 := ((hdep 3 _ rfl rfl).1 21 rfl).trans f3
      exact rule_y (y_load e21 (Sep.sgv hS' 0 rfl) rfl) ⟨⟨.slice qo op.length co, none, 0, 0, ()⟩, rfl, rfl, hS'⟩
    · intro a σ' w' rest hσ hdep hS'   -- 5: move; pieces:  ..
      have e0 : σ' 0 = ptrAt (pb b) 0 := (hσ 0 (notDstB rfl)).trans rfl
      exact rule_e [(0, _)] ⟨e0, trivial⟩ ⟨⟨ptrAt (pb b) 0, none, 0, 0, ()⟩, rfl, rfl, hS'⟩
    · intro a σ' w' rest hσ hdep hS'   -- 6: nilCheck; pieces:  ..
      have f5 := (hdep 5 _ rfl rfl).2
      have e23 := ((hdep 5 _ rfl rfl).1 23 rfl).trans f5
      exact rule_y (y_nilcheckp e23 ⟨_, rfl⟩) ⟨⟨ptrAt (pb b) 0, none, 0, 0, ()⟩, rfl, rfl, hS'⟩
    · intro a σ' w' rest hσ hdep hS'   -- 7: fieldAddr; pieces:  ..
      have f6 := (hdep 6 _ rfl rfl).2
      have e24 := ((hdep 6 _ rfl rfl).1 24 rfl).trans f6
      exact rule_y (y_field e24 ⟨_, rfl⟩ (by decide)) ⟨⟨ptrAt (pb b) 0, none, 0, 0, ()⟩, rfl, rfl, hS'⟩
    · intro a σ' w' rest hσ hdep hS'   -- 8: load; pieces:  ..
      have f7 := (hdep 7 _ rfl rfl).2
      have e25 := ((hdep 7 _ rfl rfl).1 25 rfl).trans f7
      exact rule_y (y_load e25 (Sep.sgv hS' 0 rfl) rfl) ⟨⟨.slice qo op.length co, none, 0, 0, ()⟩, rfl, rfl, hS'⟩
    · intro a σ' w' rest hσ hdep hS'   -- 9: call; pieces:  ..
      have f8 := (hdep 8 _ rfl rfl).2
      have e26 := ((hdep 8 _ rfl rfl).1 26 rfl).trans f8
      exact rule_y (y_len e26 rfl) ⟨⟨int op.length, none, 0, 0, ()⟩, rfl, rfl, hS'⟩
    · intro a σ' w' rest hσ hdep hS'   -- 10: move; pieces:  ..
      have e0 : σ' 0 = ptrAt (pb b) 0 := (hσ 0 (notDstB rfl)).trans rfl
      exact rule_e [(0, _)] ⟨e0, trivial⟩ ⟨⟨ptrAt (pb b) 0, none, 0, 0, ()⟩, rfl, rfl, hS'⟩
    · intro a σ' w' rest hσ hdep hS'   -- 11: nilCheck; pieces:  ..
      have f10 := (hdep 10 _ rfl rfl).2
      have e28 := ((hdep 10 _ rfl rfl).1 28 rfl).trans f10
      exact rule_y (y_nilcheckp e28 ⟨_, rfl⟩) ⟨⟨ptrAt (pb b) 0, none, 0, 0, ()⟩, rfl, rfl, hS'⟩
    · intro a σ' w' rest hσ hdep hS'   -- 12: fieldAddr; pieces:  ..
      have f11 := (hdep 11 _ rfl rfl).2
      have e29 := ((hdep 11 _ rfl rfl).1 29 rfl).trans f11
      exact rule_y (y_field e29 ⟨_, rfl⟩ (by decide)) ⟨⟨ptrAt (pb b) 0, none, 0, 0, ()⟩, rfl, rfl, hS'⟩
    · intro a σ' w' rest hσ hdep hS'   -- 13: load; pieces:  ..
      have f12 := (hdep 12 _ rfl rfl).2
      have e30 := ((hdep 12 _ rfl rfl).1 30 rfl).trans f12
      exact rule_y (y_load e30 (Sep.sgv hS' 0 rfl) rfl) ⟨⟨.slice qo op.length co, none, 0, 0, ()⟩, rfl, rfl, hS'⟩
    · intro a σ' w' rest hσ hdep hS'   -- 14: call; pieces:  ..
      have f13 := (hdep 13 _ rfl rfl).2
      have e31 := ((hdep 13 _ rfl rfl).1 31 rfl).trans f13
      exact rule_y (y_len e31 rfl) ⟨⟨int op.length, none, 0, 0, ()⟩, rfl, rfl, hS'⟩
    · intro a σ' w' rest hσ hdep hS'   -- 15: slice; pieces:  ..
      have f4 := (hdep 4 _ rfl rfl).2
      have e22 := ((hdep 4 _ rfl rfl).1 22 rfl).trans f4
      have f9 := (hdep 9 _ rfl rfl).2
      have e27 := ((hdep 9 _ rfl rfl).1 27 rfl).trans f9
      have f14 := (hdep 14 _ rfl rfl).2
      have e32 := ((hdep 14 _ rfl rfl).1 32 rfl).trans f14
      exact rule_y (y_rslice3 e22 e27 e32 ⟨Nat.le_refl _, hco⟩) ⟨⟨.slice qo op.length op.length, none, 0, 0, ()⟩, rfl, rfl, hS'⟩
    · intro a σ' w' rest hσ hdep hS'   -- 16: move; pieces:  ..
      have e1 : σ' 1 = str nm := (hσ 1 (notDstB rfl)).trans rfl
      exact rule_e [(1, _)] ⟨e1, trivial⟩ ⟨⟨str nm, none, 0, 0, ()⟩, rfl, rfl, hS'⟩
    · intro a σ' w' rest hσ hdep hS'   -- 17: buildSlice; pieces:  ..
      have f16 := (hdep 16 _ rfl rfl).2
      have e34 := ((hdep 16 _ rfl rfl).1 34 rfl).trans f16
      obtain ⟨b, w2, hy, hS2⟩ := y_bs1s (P := Tryz.prog) (t := 41) (d := some 35) (x := .tmp 34) hS' e34 rfl
      exact rule_y hy ⟨⟨.slice (pb b) 1 1, none, 0, b, ()⟩, rfl, rfl, hS2⟩
    · intro a σ' w' rest hσ hdep hS'   -- 18: call; pieces: takes 17 ..
      have f15 := (hdep 15 _ rfl rfl).2
      have e33 := ((hdep 15 _ rfl rfl).1 33 rfl).trans f15
      have f17 := (hdep 17 _ rfl rfl).2
      have e35 := ((hdep 17 _ rfl rfl).1 35 rfl).trans f17
      obtain ⟨b, c2, w2, hy, hS2⟩ := y_appf (P := Tryz.prog) (t := 41) (t' := 41) (ty := 41) (d := some 36) (x := .tmp 33) (y := .tmp 35) (n := op.length) (m := 1) (size := 1) hS' (hS'.sgv 2 rfl) (hS'.own 0 rfl).sg (by rw [strs_len, Nat.mul_one]) e33 e35 rfl (by simp [Go.Value.oneCell']) rfl (by decide) (by omega) (by omega)
      exact rule_y hy ⟨⟨.slice (pb b) (op.length + 1) c2, none, c2, b, ()⟩, rfl, rfl, hS2.drop 1 rfl⟩
  · intro a σ' w' hσ hA' hS'
    have h0 := hA' 0 _ rfl
    have h18 := hA' 18 _ rfl
    rw [frameOf (σ := σ') [(0, ptrAt (pb b) 0), (1, str nm), (18, ptrAt (pb b) 0), (36, .slice (pb (a 18).b) (op.length + 1) (a 18).c)]
      ⟨(hσ 0 (notDst rfl)).trans rfl, (hσ 1 (notDst rfl)).trans rfl, (h0.1 18 rfl).trans h0.2, (h18.1 36 rfl).trans h18.2, trivial⟩]
    clear hS
    have hS : Sep w0 w' (pRow 1 (pb (a 18).b) (op.length + 1) (a 18).c (strs op ++ [str nm]) :: pOwn b [.slice qo op.length co, .slice qg gh.length cg, .bool fr, .slice q2 (ms.length + 1) c2, int dp, .slice qf fs.length cf, .bool true, .bool ov] :: pVw qo (strs op) :: pVw qg (strs gh) :: pRow 4 q2 (ms.length + 1) c2 ((ms ++ [EvM.mk (opE nm es) p c]).flatMap EvM.cells) :: pMany ((ms ++ [EvM.mk (opE nm es) p c]).map EvM.row) :: pRow 5 qf fs.length cf (fs.flatMap Fi.cells) :: cs) := hS'
    have hrow := (hS.row 0 rfl).le_cap
    rw [strs_snoc, show op.length + 1 = (op ++ [nm]).length by simp, show ms.length + 1 = (ms ++ [EvM.mk (opE nm es) p c]).length by simp] at hS
    rw [show op.length + 1 = (op ++ [nm]).length by simp] at hrow
    rw [show op.length + 1 = (op ++ [nm]).length by simp]
    generalize pb (a 18).b = q5 at *
    generalize (a 18).c = c5 at *
    clear hA' hσ hS' h0 h18
    refine sgo ?_
    refine sst_slice hS 1 fun w6 hS => ?_
    refine sgo ?_
    refine sst_bool hS 1 fun w7 hS => ?_
    refine sgo ?_
    (first | refine fp1 (.inl rfl) rfl rfl ?_ | refine fp2 (.inl rfl) rfl rfl rfl ?_ | refine fp3 (.inl rfl) rfl rfl rfl rfl ?_ | refine fp0 (.inr rfl) rfl ?_ | refine fp0 (.inl rfl) rfl ?_ | refine fp1 (.inr rfl) rfl rfl ?_)
    refine ⟨⟨⟨op ++ [nm], gh, isFr nm⟩, q5, c5, qg, cg, ms ++ [EvM.mk (opE nm es) p c], q2, c2, fs, qf, cf, dp, ov⟩, ⟨rfl, evs_snoc _ _, (List.append_nil _).symm, rfl, rfl, hrow.1, hcg⟩, ?_⟩
    exact (hS.rowVw 0 rfl).sel 4 [1, 0, 3]

end Go.Proofs.YtmnnffenijjpcaaGreatDoor

/-
  Texts cut and joined: what is valid stays so.
-/
set_option linter.unusedSimpArgs false
set_option linter.unusedVariables false
set_option linter.unnecessarySimpa false
namespace Go.Proofs.YtmnnffenijjpcaaGreatDoor
open Go Go.Sv Go.RowKit
theorem valid_runes {l : List UInt8} (h : validR l = true) : ∃ rs : List Nat, (∀ r ∈ rs, Good r) ∧ l = rs.flatMap encR := ⟨runesN l, runesN_good l, (mendR_id h).symm⟩
theorem at_app_l {a b : List UInt8} {i : Nat} (h : i < a.length) : at0 (a ++ b) i = at0 a i := by simp only [at0, List.getElem?_append_left h]
theorem at_app_r {a b : List UInt8} {i : Nat} (h : a.length ≤ i) : at0 (a ++ b) i = at0 b (i - a.length) := by simp only [at0, List.getElem?_append_right h]
theorem enc_hi (r : Nat) (h1 : 128 ≤ r) (h2 : r < 1114112) : ∀ i, i < (encR r).length → 128 ≤ at0 (encR r) i := by
  intro i hi
  have hlt := encN_lt r h2
  have hi' : i < (encN r).length := by rwa [encR_len] at hi
  have e : at0 (encR r) i = (encN r)[i] := by
    have := hlt _ (List.getElem_mem hi')
    simp only [at0, encR, List.getElem?_map, List.getElem?_eq_getElem hi', Option.map_some, Option.getD_some]
    exact UInt8.toNat_ofNat_of_lt' (by simpa using this)
  rw [e]
  have hm : ∀ x ∈ encN r, 128 ≤ x := by
    intro x hx
    unfold encN at hx
    repeat' split at hx
    all_goals simp only [List.mem_cons, List.not_mem_nil, or_false] at hx
    all_goals omega
  exact hm _ (List.getElem_mem hi')
theorem flat_cut : ∀ (rs : List Nat), (∀ r ∈ rs, Good r) → ∀ n : Nat, n ≤ (rs.flatMap encR).length → (n = 0 ∨ at0 (rs.flatMap encR) (n - 1) < 128) →
    ∃ ra rb : List Nat, rs = ra ++ rb ∧ (rs.flatMap encR).take n = ra.flatMap encR ∧ (rs.flatMap encR).drop n = rb.flatMap encR
  | [], _, n, hn, _ => ⟨[], [], rfl, by simp, by simp⟩
  | r :: rs, hg, n, hn, ha => by
    have hr := hg r List.mem_cons_self
    rcases Nat.eq_zero_or_pos n with rfl | hpos
    · exact ⟨[], r :: rs, rfl, by simp, by simp⟩
    · have ha' : at0 ((r :: rs).flatMap encR) (n - 1) < 128 := by rcases ha with h | h; omega; exact h
      simp only [List.flatMap_cons] at hn ha' ⊢
      have hl1 := encR_len4 r
      rcases Nat.lt_or_ge (encR r).length n with h | h
      · rw [at_app_r (by omega)] at ha'
        obtain ⟨ra, rb, h1, h2, h3⟩ := flat_cut rs (fun x hx => hg x (List.mem_cons_of_mem _ hx)) (n - (encR r).length) (by simp only [List.length_append] at hn; omega) (.inr (by rwa [show n - (encR r).length - 1 = n - 1 - (encR r).length from by omega]))
        refine ⟨r :: ra, rb, by rw [h1]; rfl, ?_, ?_⟩
        · rw [List.take_append, List.take_of_length_le (by omega), h2, List.flatMap_cons]
        · rw [List.drop_append, List.drop_eq_nil_of_le (by omega), h3, List.nil_append]
      · rw [at_app_l (by omega)] at ha'
        have hr128 : r < 128 := by
          rcases Nat.lt_or_ge r 128 with h1 | h1
          · exact h1
          · have := enc_hi r h1 hr.1 (n - 1) (by omega)
            omega
        have hlen : (encR r).length = 1 := by rw [encR_len]; unfold encN; rw [if_pos hr128]; rfl
        obtain rfl : n = 1 := by omega
        refine ⟨[r], rs, rfl, ?_, ?_⟩
        · rw [List.take_append, List.take_of_length_le (by omega), hlen]; simp
        · rw [List.drop_append, List.drop_eq_nil_of_le (by omega), hlen]; simp
theorem valid_cut {l : List UInt8} (h : validR l = true) (n : Nat) (hn : n ≤ l.length) (ha : n = 0 ∨ at0 l (n - 1) < 128) : validR (l.take n) = true ∧ validR (l.drop n) = true := by
  obtain ⟨rs, hg, rfl⟩ := valid_runes h
  obtain ⟨ra, rb, h1, h2, h3⟩ := flat_cut rs hg n hn ha
  rw [h2, h3]
  exact ⟨valid_flat _ fun r hr => hg r (by rw [h1]; exact List.mem_append_left _ hr), valid_flat _ fun r hr => hg r (by rw [h1]; exact List.mem_append_right _ hr)⟩
end Go.Proofs.YtmnnffenijjpcaaGreatDoor

/-
  Package balance, as a law of lists: the events of any tokens are good; balanced again they are the same.
-/
set_option linter.unusedSimpArgs false
set_option linter.unusedVariables false
set_option linter.unnecessarySimpa false
namespace Go.Proofs.YtmnnffenijjpcaaGreatDoor
open Go Go.Sv Go.RowKit

theorem preTake {s u : List Nm} (h : ∃ i, u = s.take i) : s.take (s.length - (s.length - u.length)) = u ∧ u.length ≤ s.length := by
  obtain ⟨i, rfl⟩ := h
  refine ⟨?_, by simp; omega⟩
  rw [List.length_take]
  rcases Nat.lt_or_ge i s.length with h | h
  · rw [show s.length - (s.length - min i s.length) = i by omega]
  · rw [show s.length - (s.length - min i s.length) = s.length by omega, List.take_of_length_le (Nat.le_refl _), List.take_of_length_le h]
theorem fr_of {l : List Nm} (hl : ∀ y ∈ l, isFr y = false) : ∀ s : BaS, (pushesB s l).fr = true → l = [] ∧ s.fr = true := by
  induction l with
  | nil => intro s h; exact ⟨rfl, h⟩
  | cons y l ih =>
    intro s h
    have h1 := ih (fun z hz => hl z (List.mem_cons_of_mem _ hz)) (pushB s y) h
    have h2 := hl y List.mem_cons_self
    have h3 : isFr y = true := h1.2
    rw [h2] at h3; cases h3
theorem popB_fr {s : BaS} {k : Nat} (h : (popB s k).fr = true) : s.fr = true := by
  unfold popB at h
  split at h
  · exact h
  · cases h
theorem puts_fr : (puts.all fun n => !isFr n) = true := by decide
theorem put_fr {y : Nm} (h : y ∈ puts) : isFr y = false := by simpa using List.all_eq_true.1 puts_fr y h
theorem start_good {depth : Nat} (s : BaS) (t : Tok) (hr : rightR s.op = true) (ha : SmA t.attrs) :
    GoodL depth (s.op, s.fr) (startB depth s t).es ((startB depth s t).s.op, (startB depth s t).s.fr) := by
  unfold startB
  cases h1 : isAllow t.name with
  | false => rw [if_pos rfl]; exact .nil
  | true =>
    rw [if_neg Bool.noConfusion]
    by_cases h2 : depth < s.op.length - (planR s.op (askR s.op t.name)).ends + (planR s.op (askR s.op t.name)).put.length + 1
    · rw [if_pos h2]
      split <;> exact .nil
    rw [if_neg h2]
    obtain ⟨k1, k2⟩ := ask_right hr t.name
    obtain ⟨e1, e2⟩ := preTake (ask_pre s.op t.name)
    have hp : s.op.take (s.op.length - (planR s.op (askR s.op t.name)).ends) = (askR s.op t.name).1 := e1
    have hq : (planR s.op (askR s.op t.name)).put = (askR s.op t.name).2 := rfl
    have hk : (planR s.op (askR s.op t.name)).ends ≤ s.op.length := by show s.op.length - _ ≤ _; omega
    rw [← hp, ← hq] at k1 k2
    generalize planR s.op (askR s.op t.name) = p at *
    have hlen : (s.op.take (s.op.length - p.ends) ++ p.put).length = s.op.length - p.ends + p.put.length := by simp
    obtain ⟨g1, g2⟩ := follow_good (depth := depth) s p hr hk k1 (by omega)
    cases h3 : isVoid t.name with
    | true =>
      rw [if_pos rfl]
      refine g1.app (GoodL.one (e := voE t.name t.attrs) ?_)
      refine .voids h1 h3 ?_ ?_ ha
      · rw [g2]; exact k2
      · rw [g2, hlen]; omega
    | false =>
      rw [if_neg Bool.noConfusion]
      refine g1.app (GoodL.one (e := opE t.name t.attrs) ?_)
      refine .opens h1 h3 ?_ ?_ ha
      · rw [g2]; exact k2
      · rw [g2, hlen]; omega
theorem text_still {v : List Nm} (hr : rightR v = true) (h1 : topR v ≠ nTextarea) (h2 : topR v ≠ nColgroup) (h3 : innerP (topR v) = []) (b : Bool) : nTextR v b = planR v (v, []) := by
  have hn := innerP_pos (topR v)
  rw [h3] at hn
  unfold nTextR
  rw [hr, if_neg Bool.noConfusion, if_neg h1, inner_still h2 h3, decide_eq_false h2, Bool.false_or]
  simp only [List.length_nil, Nat.lt_irrefl, decide_false] at hn
  rw [← hn]
  simp
theorem lf_valid {x : List UInt8} (h : validR x = true) : validR (lfR x) = true := by
  obtain ⟨k, h1, h2⟩ := lf_app x
  rw [h1]
  rcases Nat.lt_or_ge x.length k with hk | hk
  · rw [List.drop_of_length_le (by omega)]; rfl
  · refine (valid_cut h k hk ?_).2
    rcases Nat.eq_zero_or_pos k with h0 | h0
    · exact .inl h0
    · refine .inr ?_
      have := h2 (k - 1) (by omega)
      unfold at0
      rw [this]; decide
theorem lf_len (x : List UInt8) : (lfR x).length ≤ x.length := by
  obtain ⟨k, h1, _⟩ := lf_app x
  rw [h1, List.length_drop]; omega
theorem follow_none (s : BaS) : followB s ⟨0, [], false, 0⟩ = s ∧ followE s ⟨0, [], false, 0⟩ = [] := by
  refine ⟨rfl, ?_⟩
  unfold followE
  rw [offN_zero]; rfl
theorem text_good {depth : Nat} (s : BaS) (t : Tok) (hr : rightR s.op = true) (hv : validR t.text = true ∧ t.text.length ≤ 1048576) :
    GoodL depth (s.op, s.fr) (textB depth s t).es ((textB depth s t).s.op, (textB depth s t).s.fr) := by
  have hxv : validR (headB s t) = true ∧ (headB s t).length ≤ 1048576 := by
    unfold headB; split
    · exact ⟨lf_valid hv.1, Nat.le_trans (lf_len _) hv.2⟩
    · exact hv
  have hxh : s.fr = true → (headB s t).head? ≠ some 10 := by
    intro h; unfold headB; rw [if_pos h]; exact lf_head _
  unfold textB
  generalize headB s t = x at *
  by_cases hx : x = []
  · rw [if_pos hx]; exact .nil
  rw [if_neg hx]
  cases hd : (nTextR s.op (isBlank x)).drop with
  | true => rw [if_pos rfl]; exact .nil
  | false =>
    rw [if_neg Bool.noConfusion]
    by_cases h2 : depth < s.op.length - (nTextR s.op (isBlank x)).ends + (nTextR s.op (isBlank x)).put.length
    · rw [if_pos h2]; exact .nil
    rw [if_neg h2]
    by_cases ht : topR s.op = nTextarea
    · have e : nTextR s.op (isBlank x) = errR 0 := by unfold nTextR; rw [hr, if_neg Bool.noConfusion, if_pos ht]
      have g : GoodE depth (s.op, s.fr) (txE x) := by refine .texts hx hxv hxh hd ?_ ?_ <;> rw [e] <;> rfl
      rw [e]
      exact (show GoodL depth (s.op, s.fr) (followE s (errR 0)) (s.op, s.fr) from by rw [show followE s (errR 0) = [] from (follow_none s).2]; exact .nil).app (GoodL.one g)
    · have e : nTextR s.op (isBlank x) = planR s.op (innerR s.op) := by
        unfold nTextR at hd ⊢
        rw [hr, if_neg Bool.noConfusion, if_neg ht] at hd ⊢
        split
        · rename_i h; rw [if_pos h] at hd; cases hd
        · rfl
      have hpre : ∃ i, innerS s.op = s.op.take i := by
        unfold innerS; split
        · exact ⟨s.op.length - 1, List.dropLast_eq_take⟩
        · exact ⟨s.op.length, by simp⟩
      obtain ⟨k1, k2, k3, k4⟩ := inner_right hr ht
      obtain ⟨e1, e2⟩ := preTake hpre
      have hp : s.op.take (s.op.length - (planR s.op (innerR s.op)).ends) = innerS s.op := e1
      have hq : (planR s.op (innerR s.op)).put = innerP (topR (innerS s.op)) := rfl
      have hk : (planR s.op (innerR s.op)).ends ≤ s.op.length := by show s.op.length - _ ≤ _; omega
      have hpf : ∀ y ∈ (planR s.op (innerR s.op)).put, isFr y = false := fun y hy => put_fr (innerP_puts hy)
      rw [e] at h2 ⊢
      rw [← hq, ← hp] at k1 k2 k3 k4
      generalize planR s.op (innerR s.op) = p at *
      have hlen : (s.op.take (s.op.length - p.ends) ++ p.put).length = s.op.length - p.ends + p.put.length := by simp
      obtain ⟨g1, g2⟩ := follow_good (depth := depth) s p hr hk k1 (by omega)
      refine g1.app (GoodL.one (e := txE x) ?_)
      have hst := text_still k1 k2 k3 k4 (isBlank x)
      rw [← g2] at hst
      refine .texts hx hxv (fun hf => ?_) ?_ ?_ ?_
      · exact hxh (popB_fr (fr_of hpf _ hf).2)
      · rw [hst]; rfl
      · rw [hst]; show _ - _ = 0; simp
      · rw [hst]; rfl
theorem endR_le (s : List Nm) (n : Nm) : (endR s n).1 ≤ s.length := by
  unfold endR
  split
  · exact Nat.zero_le _
  · split
    · exact Nat.zero_le _
    · show s.length - _ ≤ s.length; omega
theorem end_good {depth : Nat} (s : BaS) (t : Tok) (hr : rightR s.op = true) :
    GoodL depth (s.op, s.fr) (endB s t).es ((endB s t).s.op, (endB s t).s.fr) := by
  unfold endB
  cases lastK t.name s.gh s.gh.length with
  | some i => exact .nil
  | none =>
    dsimp only
    split
    · exact .nil
    · exact close_good _ s.op s.gh s.fr (endR_le _ _) hr
theorem take_good {depth : Nat} (s : BaS) (t : Tok) (hr : rightR s.op = true) (hm : mayR t = true) (hs : t.small) :
    GoodL depth (s.op, s.fr) (takeB depth s t).es ((takeB depth s t).s.op, (takeB depth s t).s.fr) := by
  unfold takeB
  unfold mayR at hm
  by_cases h1 : t.kind = 1
  · rw [if_pos h1]
    rw [if_neg (by omega), if_pos h1] at hm
    simp only [Bool.and_eq_true] at hm
    exact start_good s t hr ⟨hm.2.2, hs.attrs, hs.each⟩
  rw [if_neg h1]
  by_cases h0 : t.kind = 0
  · rw [if_pos h0]
    rw [if_pos h0] at hm
    simp only [Bool.and_eq_true] at hm
    exact text_good s t hr ⟨hm.2.2, hs.text⟩
  rw [if_neg h0]
  by_cases h2 : t.kind = 2
  · rw [if_pos h2]; exact end_good s t hr
  · rw [if_neg h2]; exact .nil
theorem run_good {depth : Nat} : ∀ (l : List Tok) (s : BaS), (∀ t ∈ l, mayR t = true ∧ t.small) → PosR depth (s.op, s.fr) → GoodL depth (s.op, s.fr) (runB depth s l).es ((runB depth s l).s.op, (runB depth s l).s.fr)
  | [], s, _, _ => .nil
  | t :: l, s, hm, hp => by
    have h1 := take_good (depth := depth) s t hp.1 (hm t List.mem_cons_self).1 (hm t List.mem_cons_self).2
    exact h1.app (run_good l _ (fun x hx => hm x (List.mem_cons_of_mem _ hx)) (h1.right hp))
theorem pos0 (depth : Nat) : PosR depth ([], false) := ⟨rfl, Nat.zero_le _⟩
theorem popB_all (s : BaS) : (popB s s.op.length).op = [] := by
  unfold popB
  split
  · rename_i h; exact List.eq_nil_of_length_eq_zero h
  · simp
theorem all_good (depth : Nat) (l : List Tok) (hm : ∀ t ∈ l, mayR t = true ∧ t.small) : ∃ f, GoodL depth ([], false) (allE depth l) ([], f) := by
  have h1 := run_good (depth := depth) l ba0 hm (pos0 depth)
  have h2 := h1.right (pos0 depth)
  have h3 := close_good (depth := depth) (runB depth ba0 l).s.op.length (runB depth ba0 l).s.op (runB depth ba0 l).s.gh (runB depth ba0 l).s.fr (Nat.le_refl _) h2.1
  have e := popB_all (runB depth ba0 l).s
  rw [show popB ⟨(runB depth ba0 l).s.op, (runB depth ba0 l).s.gh, (runB depth ba0 l).s.fr⟩ (runB depth ba0 l).s.op.length = popB (runB depth ba0 l).s (runB depth ba0 l).s.op.length from rfl, e] at h3
  exact ⟨_, h1.app h3⟩
/-! ## again -/
/-- an event as a token -/
def evTok (e : Ev) : Tok := if e.kind = 0 then ⟨0, [], e.text, [], false, 0, 0, 0⟩ else if e.kind = 2 then ⟨2, e.name, [], [], false, 0, 0, 0⟩ else ⟨1, e.name, [], e.attrs, false, 0, 0, 0⟩
theorem plan_none (o : List Nm) : planR o (o, []) = ⟨0, [], false, 0⟩ := by
  show PlanR.mk (o.length - o.length) [] false 0 = _
  rw [Nat.sub_self]
theorem end_top {o : List Nm} {n : Nm} (hr : rightR (o ++ [n]) = true) : endR (o ++ [n]) n = (1, 0) := by
  have h1 : endStops n n = false := by
    unfold endStops
    cases hh : isHead n with
    | true => rw [if_pos rfl]; exact (head_facts hh).2.2.2.2.2.2.2
    | false =>
      rw [if_neg Bool.noConfusion]
      by_cases ht : n = nTable
      · rw [if_pos ht]; rfl
      rw [if_neg ht]
      cases h14 : inSet 14 n with
      | true => rw [if_pos rfl]; exact decide_eq_false ht
      | false =>
        rw [if_neg Bool.noConfusion]
        unfold isWall isCell
        rw [decide_eq_false ht]
        have f1 : n ≠ nTd := by rintro rfl; revert h14; decide +kernel
        have f2 : n ≠ nTh := by rintro rfl; revert h14; decide +kernel
        have f3 : n ≠ nCaption := by rintro rfl; revert h14; decide +kernel
        simp [f1, f2, f3]
  have h2 : endIs n n = true := by
    unfold endIs
    cases hh : isHead n with
    | true => rw [if_pos rfl]; exact hh
    | false => rw [if_neg Bool.noConfusion]; exact decide_eq_true rfl
  unfold endR
  rw [hr, if_neg Bool.noConfusion, tpm_snoc, h1, if_neg Bool.noConfusion, h2, if_pos rfl]
  dsimp only
  rw [List.length_append, List.length_singleton, Nat.add_sub_cancel_left]
theorem lf_same {x : List UInt8} (h : x.head? ≠ some 10) : lfR x = x := by
  cases x with
  | nil => rfl
  | cons c x =>
    unfold lfR
    rw [List.dropWhile_cons, if_neg (by simpa using h)]
theorem take_again {depth : Nat} {o : List Nm} {f : Bool} {e : Ev} (h : GoodE depth (o, f) e) (hp : PosR depth (o, f)) : takeB depth ⟨o, [], f⟩ (evTok e) = ⟨⟨(nextE (o, f) e).1, [], (nextE (o, f) e).2⟩, [e], []⟩ := by
  generalize hx : (o, f) = x at h
  cases h with
  | @opens o' f' n es h1 h2 h3 h4 h5 =>
    cases hx
    have ea : askR o n = (o, []) := still_of h3
    show startB depth ⟨o, [], f⟩ ⟨1, n, [], es, false, 0, 0, 0⟩ = _
    unfold startB
    dsimp only
    rw [h1, if_neg Bool.noConfusion, ea, plan_none, if_neg (by simp; omega), h2, if_neg Bool.noConfusion, (follow_none _).1, (follow_none _).2]
    rfl
  | @voids o' f' n es h1 h2 h3 h4 h5 =>
    cases hx
    have ea : askR o n = (o, []) := still_of h3
    show startB depth ⟨o, [], f⟩ ⟨1, n, [], es, false, 0, 0, 0⟩ = _
    unfold startB
    dsimp only
    rw [h1, if_neg Bool.noConfusion, ea, plan_none, if_neg (by simp; omega), h2, if_pos rfl, (follow_none _).1, (follow_none _).2]
    rfl
  | @closes o' f' n h1 =>
    cases hx
    show endB ⟨o' ++ [n], [], f⟩ ⟨2, n, [], [], false, 0, 0, 0⟩ = _
    unfold endB
    dsimp only
    rw [show lastK n [] [].length = none from rfl]
    dsimp only
    rw [end_top h1, if_neg (by decide), offN_snoc _ _ 0 (Nat.zero_le _), popB_snoc _ _ _ _ 0 (Nat.zero_le _), offN_zero]
    show OutB.mk (BaS.mk o' [] false) [closeE n] [] = OutB.mk (BaS.mk (List.dropLast (o' ++ [n])) [] false) [closeE n] []
    rw [List.dropLast_concat]
  | @texts o' f' t h1 h2 h3 h4 h5 h6 =>
    cases hx
    show textB depth ⟨o, [], f⟩ ⟨0, [], t, [], false, 0, 0, 0⟩ = _
    have hh : headB ⟨o, [], f⟩ ⟨0, [], t, [], false, 0, 0, 0⟩ = t := by
      unfold headB
      dsimp only
      split
      · rename_i hf; exact lf_same (h3 hf)
      · rfl
    unfold textB
    rw [hh, if_neg h1]
    dsimp only
    have hle : o.length ≤ depth := hp.2
    have hz : followE ⟨o, [], f⟩ (nTextR o (isBlank t)) = [] ∧ followB ⟨o, [], f⟩ (nTextR o (isBlank t)) = ⟨o, [], f⟩ ∧ ∀ t' : Tok, followF t' (nTextR o (isBlank t)) = [] := by
      unfold followE followB followF
      rw [h5, h6]
      refine ⟨?_, rfl, fun _ => rfl⟩
      rw [offN_zero]; rfl
    rw [h4, if_neg Bool.noConfusion, h5, h6, if_neg (by simp; omega), hz.1, hz.2.1, hz.2.2]
    rfl
theorem run_again {depth : Nat} {x y : Pos} {l : List Ev} (h : GoodL depth x l y) (hp : PosR depth x) : runB depth ⟨x.1, [], x.2⟩ (l.map evTok) = ⟨⟨y.1, [], y.2⟩, l, []⟩ := by
  induction h with
  | nil => rfl
  | @cons x e l y h1 h2 ih =>
    have e1 := take_again (o := x.1) (f := x.2) h1 hp
    have e2 := ih (next_right h1 hp)
    simp only [List.map_cons, runB]
    rw [e1]
    dsimp only
    rw [e2]
    rfl
theorem allow_name {n : Nm} (h : isAllow n = true) : nameR false n = true := in_all (k := 15) (f := fun n => nameR false n) (by decide +kernel) h
theorem may_again {depth : Nat} {x : Pos} {e : Ev} (h : GoodE depth x e) : mayR (evTok e) = true := by
  cases h with
  | @opens o f n es h1 _ _ _ h5 =>
    show (nameR false n && (decide (([] : List UInt8) = []) && attrsR es)) = true
    rw [allow_name h1, h5.1]; rfl
  | @voids o f n es h1 _ _ _ h5 =>
    show (nameR false n && (decide (([] : List UInt8) = []) && attrsR es)) = true
    rw [allow_name h1, h5.1]; rfl
  | @closes o f n h1 =>
    have := allow_name (right_iff.1 h1).2.1
    show (nameR false n && (decide (([] : List UInt8) = []) && (decide (([] : List At).length = 0) && !false))) = true
    rw [this]; rfl
  | @texts o f y h1 h2 _ _ _ _ =>
    have e : mayR ⟨0, [], y, [], false, 0, 0, 0⟩ = (bareR ⟨0, [], y, [], false, 0, 0, 0⟩ && (!decide (y = []) && validR y)) := rfl
    show mayR ⟨0, [], y, [], false, 0, 0, 0⟩ = true
    rw [e, decide_eq_false h1, h2.1]; rfl
theorem mays_again {depth : Nat} {x y : Pos} {l : List Ev} (h : GoodL depth x l y) : ∀ t ∈ l.map evTok, mayR t = true := by
  induction h with
  | nil => simp
  | @cons x e l y h1 h2 ih =>
    intro t ht
    simp only [List.map_cons, List.mem_cons] at ht
    rcases ht with rfl | ht
    · exact may_again h1
    · exact ih t ht
theorem allow_len {n : Nm} (h : isAllow n = true) : n.length ≤ 100 := of_decide_eq_true (in_all (k := 15) (f := fun n => decide (n.length ≤ 100)) (by decide +kernel) h)
theorem good_small {depth : Nat} {x : Pos} {e : Ev} (h : GoodE depth x e) : e.small ∧ (evTok e).small := by
  cases h with
  | @opens o f n es h1 _ _ _ h5 =>
    have h : n.length ≤ 1048576 := Nat.le_trans (allow_len h1) (by decide)
    exact ⟨⟨h, by simp [opE], h5.2.1, h5.2.2⟩, ⟨h, Nat.zero_le _, h5.2.1, h5.2.2⟩⟩
  | @voids o f n es h1 _ _ _ h5 =>
    have h : n.length ≤ 1048576 := Nat.le_trans (allow_len h1) (by decide)
    exact ⟨⟨h, by simp [voE], h5.2.1, h5.2.2⟩, ⟨h, Nat.zero_le _, h5.2.1, h5.2.2⟩⟩
  | @closes o f n h1 =>
    have h : n.length ≤ 1048576 := Nat.le_trans (allow_len (right_iff.1 h1).2.1) (by decide)
    exact ⟨⟨h, Nat.zero_le _, Nat.zero_le _, fun x hx => absurd hx (by simp [closeE])⟩, ⟨h, Nat.zero_le _, Nat.zero_le _, fun x hx => nomatch hx⟩⟩
  | @texts o f y _ h2 _ _ _ _ =>
    exact ⟨⟨Nat.zero_le _, h2.2, Nat.zero_le _, fun x hx => absurd hx (by simp [txE])⟩, ⟨Nat.zero_le _, h2.2, Nat.zero_le _, fun x hx => nomatch hx⟩⟩
theorem goods_small {depth : Nat} {x y : Pos} {l : List Ev} (h : GoodL depth x l y) : ∀ e ∈ l, e.small ∧ (evTok e).small := by
  induction h with
  | nil => simp
  | cons h1 h2 ih =>
    intro e he
    rcases List.mem_cons.1 he with rfl | he
    · exact good_small h1
    · exact ih e he
/-! ## how many -/
theorem offN_len (s : List Nm) (k : Nat) (hk : k ≤ s.length) : (offN s k).length = k := by unfold offN; simp; omega
theorem popB_len (s : BaS) (k : Nat) (hk : k ≤ s.op.length) : (popB s k).op.length + k = s.op.length := by
  unfold popB
  split
  · rename_i h; rw [h]; rfl
  · simp only [List.length_take]; omega
theorem follow_len (s : BaS) (p : PlanR) (hk : p.ends ≤ s.op.length) : (followE s p).length = p.ends + p.put.length ∧ (followB s p).op.length + p.ends = s.op.length + p.put.length := by
  unfold followE followB
  refine ⟨by simp [offN_len _ _ hk], ?_⟩
  rw [(pushes_op _ _).1, List.length_append]
  have := popB_len s p.ends hk
  omega
theorem nText_bnd (o : List Nm) (b : Bool) : (nTextR o b).ends ≤ o.length ∧ (nTextR o b).put.length ≤ 6 := by
  unfold nTextR
  repeat' split
  all_goals first | exact ⟨Nat.zero_le _, by decide⟩ | skip
  refine ⟨by show o.length - _ ≤ _; omega, ?_⟩
  have := innerP_len (topR (innerS o))
  show (innerP (topR (innerS o))).length ≤ 6
  omega
theorem take_len (depth : Nat) (s : BaS) (t : Tok) : (takeB depth s t).es.length + (takeB depth s t).s.op.length ≤ s.op.length + 14 := by
  unfold takeB
  split
  · unfold startB
    have h1 := follow_len s (planR s.op (askR s.op t.name)) (by show s.op.length - _ ≤ _; omega)
    have h2 := ask_put_len s.op t.name
    have h3 : (planR s.op (askR s.op t.name)).put.length ≤ 6 := h2
    generalize planR s.op (askR s.op t.name) = p at *
    repeat' split
    all_goals simp only [List.length_nil, List.length_append, List.length_singleton, pushB]
    all_goals omega
  split
  · unfold textB
    have h0 := nText_bnd s.op (isBlank (headB s t))
    have h1 := follow_len s (nTextR s.op (isBlank (headB s t))) h0.1
    generalize nTextR s.op (isBlank (headB s t)) = p at *
    repeat' split
    all_goals simp only [List.length_nil, List.length_append, List.length_singleton]
    all_goals omega
  split
  · unfold endB
    split
    · simp
    · have h0 := endR_le s.op t.name
      split
      · simp
      · have h1 := popB_len s _ h0
        simp only [List.length_map, offN_len _ _ h0]
        omega
  · simp
theorem run_len (depth : Nat) : ∀ (l : List Tok) (s : BaS), (runB depth s l).es.length + (runB depth s l).s.op.length ≤ s.op.length + 14 * l.length
  | [], s => by simp [runB]
  | t :: l, s => by
    have h1 := take_len depth s t
    have h2 := run_len depth l (takeB depth s t).s
    simp only [runB, List.length_append, List.length_cons]
    omega
theorem all_len (depth : Nat) (l : List Tok) : (allE depth l).length ≤ 14 * l.length := by
  have h := run_len depth l ba0
  unfold allE
  rw [List.length_append, List.length_map, offN_len _ _ (Nat.le_refl _)]
  simpa [ba0] using h
theorem all_again {depth : Nat} {l : List Ev} {f : Bool} (h : GoodL depth ([], false) l ([], f)) : allE depth (l.map evTok) = l ∧ allF depth (l.map evTok) = [] := by
  have e : runB depth ba0 (l.map evTok) = ⟨⟨[], [], f⟩, l, []⟩ := run_again h (pos0 depth)
  refine ⟨?_, ?_⟩
  · unfold allE
    rw [e]
    show l ++ _ = l
    rw [List.length_nil, offN_zero]; simp
  · unfold allF
    rw [e]
end Go.Proofs.YtmnnffenijjpcaaGreatDoor

/-
  Package balance: pop.
-/
set_option linter.unusedSimpArgs false
set_option linter.unusedVariables false
set_option linter.unnecessarySimpa false
namespace Go.Proofs.YtmnnffenijjpcaaGreatDoor
open Go Go.Sv Go.RowKit

theorem popB_op (s : BaS) (k : Nat) : (popB s k).op = s.op.take (s.op.length - k) := by
  unfold popB
  split
  · rename_i h; rw [h, Nat.sub_zero, List.take_length]
  · rfl
theorem popB_succ (s : BaS) (k : Nat) : popB s (k + 1) = ⟨s.op.take (s.op.length - k - 1), [], false⟩ := by
  unfold popB
  rw [if_neg (by omega), Nat.sub_sub]
theorem offN_succ (s : List Nm) (k : Nat) (h : k < s.length) : offN s (k + 1) = offN s k ++ [s.getD (s.length - k - 1) []] := by
  unfold offN
  rw [show s.length - k = s.length - (k + 1) + 1 by omega, show s.length - (k + 1) + 1 - 1 = s.length - (k + 1) by omega]
  conv => lhs; rw [List.drop_eq_getElem_cons (show s.length - (k + 1) < s.length by omega)]
  rw [List.reverse_cons, List.getD_eq_getElem?_getD, List.getElem?_eq_getElem (show s.length - (k + 1) < s.length by omega)]
  rfl
def poP (b : Nat) (qo qt : Option Addr) (co ct : Nat) (op : List Nm) (x : Nm) (ms : List EvM) : PlanB Unit where
  pl k d := match k with
    | 13 => [pOwn d.b [int 2, str x, str [], .slice none 0 0]]
    | 14 => [pRow 4 d.p (ms.length + 1) d.c (ms.flatMap EvM.cells ++ [int 2, str x, str [], .slice none 0 0])]
    | _ => []
  con k := match k with
    | 13 => some 14
    | _ => none
  base k := match k with
    | 14 => [pRow 4 qt ms.length ct (ms.flatMap EvM.cells)]
    | _ => []
  fact k a := match k with
    | 0 => (a 0).v = ptrAt (pb b) 0
    | 1 => (a 1).v = ptrAt (pb b) 0
    | 2 => (a 2).v = ptrAt (pb b) 0
    | 3 => (a 3).v = ptrAt (pb b) 3
    | 4 => (a 4).v = .slice qt ms.length ct
    | 5 => (a 5).v = ptrAt (pb b) 0
    | 6 => (a 6).v = ptrAt (pb b) 0
    | 7 => (a 7).v = ptrAt (pb b) 0
    | 8 => (a 8).v = .slice qo op.length co
    | 9 => (a 9).v = int (op.length - 1 : Nat)
    | 10 => (a 10).v = ptrAt qo ((op.length - 1) * 1)
    | 11 => (a 11).v = str x
    | 12 => (a 12).v = .agg ⟨[int 2, str x, str [], .slice none 0 0]⟩
    | 13 => (a 13).v = .slice (pb (a 13).b) 1 1
    | 14 => (a 14).v = .slice (a 14).p (ms.length + 1) (a 14).c
    | 15 => True
    | 16 => True
    | 17 => True
    | _ => True
set_option maxHeartbeats 4000000 in
theorem bPop_ok (m : BaM) (b k : Nat) (hk : k ≤ m.s.op.length) (hco : m.s.op.length ≤ m.co) (hcg : m.s.gh.length ≤ m.cg) (hol : m.s.op.length ≤ 4194304) (htl : m.ms.length ≤ 4194304) (w0 w : World) (cs : List Plot) (hS : Sep w0 w (m.plots b cs)) :
    CallsR Tryz.prog 40 #[ptrAt (pb b) 0, int k] w fun _ w' => BaP m b (popB m.s k) ((offN m.s.op k).map closeE) [] w0 cs w' := by
  refine enter (l := [ptrAt (pb b) 0, int k]) Tryz.func40 rfl Tryz.ntmps40 (by kernel_rfl) rfl ?_
  refine sgo ?_
  refine wcloop (X := Nat × BaM) (fun x => [(0, ptrAt (pb b) 0), (5, int k), (6, int x.1)])
    (fun x wr => x.1 ≤ k ∧ m.to x.2 (popB m.s x.1) ((offN m.s.op x.1).map closeE) [] ∧ Sep w0 wr (x.2.plots b cs)) (fun x => k - x.1) (0, m) ⟨rfl, rfl, rfl, trivial⟩ ⟨Nat.zero_le _, ⟨rfl, by rw [offN_zero]; simp, by simp, rfl, rfl, hco, hcg⟩, hS⟩ ?_
  clear hS
  rintro ⟨i, m2⟩ wr ρ ⟨hik, hto, hS⟩
  dsimp only at *
  obtain ⟨h1, h2, h3, h4, h5, h6, h7⟩ := hto
  obtain ⟨⟨op, gh, fr⟩, qo, co, qg, cg, ms, qt, ct, fs, qf, cf, dp, ov⟩ := m2
  dsimp only at h1 h2 h3 h4 h5 h6 h7
  have hop : op = m.s.op.take (m.s.op.length - i) := by rw [← popB_op, ← h1]
  have hml : ms.length = m.ms.length + i := by
    have := congrArg List.length h2
    rw [evs_len, List.length_append, evs_len, List.length_map, offN_len _ _ (by omega)] at this
    exact this
  refine sgo ?_
  (show WC _ _ _ _ _ _ _; first | refine WC_dec rfl (fun hc => ?_) (fun hc => ?_) | refine WC_cond rfl (fun hc => ?_) (fun hc => ?_))
  · have hlt : i < k := by omega
    clear hc
    have hol2 : op.length = m.s.op.length - i := by rw [hop, List.length_take]; omega
    obtain ⟨x, hxx⟩ : ∃ x, op[op.length - 1]? = some x := ⟨_, List.getElem?_eq_getElem (by omega)⟩
    have hx := strs_at hxx
    have hgx : m.s.op.getD (m.s.op.length - i - 1) [] = x := by
      rw [hol2, hop, List.getElem?_take, if_pos (by omega)] at hxx
      rw [List.getD_eq_getElem?_getD, hxx]; rfl
    have hsl := strs_len op
    replace hS : Sep w0 wr ([pRow 4 qt ms.length ct (ms.flatMap EvM.cells)] ++ (pOwn b [.slice qo op.length co, .slice qg gh.length cg, .bool fr, .slice qt ms.length ct, int dp, .slice qf fs.length cf, .bool true, .bool ov] :: pVw qo (strs op) :: pVw qg (strs gh) :: pMany (ms.map EvM.row) :: pRow 5 qf fs.length cf (fs.flatMap Fi.cells) :: cs)) := hS.front 3 rfl
    have hqs : ∃ a, qo = some a := (hS.vw 2 rfl).some (by omega)
    have i1 : ((op.length : Int) - 1) = ((op.length - 1 : Nat) : Int) := by omega
    refine sgo ?_
    rw [i1]
    refine sgo ?_
    refine wcplant (b := [pRow 4 qt ms.length ct (ms.flatMap EvM.cells)]) 15 (poP b qo qt co ct op x ms) ⟨.nilIface, none, 0, 0, ()⟩ hS rfl (fun j oj a a' hj he hd h => ?_) ?_ ?_
    · have hjl : j < 18 := (List.getElem?_eq_some_iff.1 hj).1
      match j, hjl with
      | 0, _ | 1, _ | 2, _ | 3, _ | 4, _ | 5, _ | 6, _ | 7, _ | 8, _ | 9, _ | 10, _ | 11, _ | 12, _ | 13, _ | 14, _ | 15, _ | 16, _ | 17, _ => first | (simp only [poP] at h ⊢; rw [← he]; exact h) | exact h
    · refine ⟨?_, ?_, ?_, ?_, ?_, ?_, ?_, ?_, ?_, ?_, ?_, ?_, ?_, ?_, ?_, trivial⟩
      · intro a σ' w' rest hσ hdep hS'   -- 0: move; pieces:  ..
        have e0 : σ' 0 = ptrAt (pb b) 0 := (hσ 0 (notDstB rfl)).trans rfl
        exact rule_e [(0, _)] ⟨e0, trivial⟩ ⟨⟨ptrAt (pb b) 0, none, 0, 0, ()⟩, rfl, rfl, hS'⟩
      · intro a σ' w' rest hσ hdep hS'   -- 1: move; pieces:  ..
        have e0 : σ' 0 = ptrAt (pb b) 0 := (hσ 0 (notDstB rfl)).trans rfl
        exact rule_e [(0, _)] ⟨e0, trivial⟩ ⟨⟨ptrAt (pb b) 0, none, 0, 0, ()⟩, rfl, rfl, hS'⟩
      · intro a σ' w' rest hσ hdep hS'   -- 2: nilCheck; pieces:  ..
        have f1 := (hdep 1 _ rfl rfl).2
        have e15 := ((hdep 1 _ rfl rfl).1 15 rfl).trans f1
        exact rule_y (y_nilcheckp e15 ⟨_, rfl⟩) ⟨⟨ptrAt (pb b) 0, none, 0, 0, ()⟩, rfl, rfl, hS'⟩
      · intro a σ' w' rest hσ hdep hS'   -- 3: fieldAddr; pieces:  ..
        have f2 := (hdep 2 _ rfl rfl).2
        have e16 := ((hdep 2 _ rfl rfl).1 16 rfl).trans f2
        exact rule_y (y_field e16 ⟨_, rfl⟩ (by decide)) ⟨⟨ptrAt (pb b) 3, none, 0, 0, ()⟩, rfl, rfl, hS'⟩
      · intro a σ' w' rest hσ hdep hS'   -- 4: load; pieces: sees 14 ..
        have f3 := (hdep 3 _ rfl rfl).2
        have e17 := ((hdep 3 _ rfl rfl).1 17 rfl).trans f3
        exact rule_y (y_load e17 (Sep.sgv hS' 1 rfl) rfl) ⟨⟨.slice qt ms.length ct, none, 0, 0, ()⟩, rfl, rfl, hS'⟩
      · intro a σ' w' rest hσ hdep hS'   -- 5: move; pieces:  ..
        have e0 : σ' 0 = ptrAt (pb b) 0 := (hσ 0 (notDstB rfl)).trans rfl
        exact rule_e [(0, _)] ⟨e0, trivial⟩ ⟨⟨ptrAt (pb b) 0, none, 0, 0, ()⟩, rfl, rfl, hS'⟩
      · intro a σ' w' rest hσ hdep hS'   -- 6: nilCheck; pieces:  ..
        have f5 := (hdep 5 _ rfl rfl).2
        have e19 := ((hdep 5 _ rfl rfl).1 19 rfl).trans f5
        exact rule_y (y_nilcheckp e19 ⟨_, rfl⟩) ⟨⟨ptrAt (pb b) 0, none, 0, 0, ()⟩, rfl, rfl, hS'⟩
      · intro a σ' w' rest hσ hdep hS'   -- 7: fieldAddr; pieces:  ..
        have f6 := (hdep 6 _ rfl rfl).2
        have e20 := ((hdep 6 _ rfl rfl).1 20 rfl).trans f6
        exact rule_y (y_field e20 ⟨_, rfl⟩ (by decide)) ⟨⟨ptrAt (pb b) 0, none, 0, 0, ()⟩, rfl, rfl, hS'⟩
      · intro a σ' w' rest hσ hdep hS'   -- 8: load; pieces:  ..
        have f7 := (hdep 7 _ rfl rfl).2
        have e21 := ((hdep 7 _ rfl rfl).1 21 rfl).trans f7
        exact rule_y (y_load e21 (Sep.sgv hS' 0 rfl) rfl) ⟨⟨.slice qo op.length co, none, 0, 0, ()⟩, rfl, rfl, hS'⟩
      · intro a σ' w' rest hσ hdep hS'   -- 9: move; pieces:  ..
        have e4 : σ' 4 = int (op.length - 1 : Nat) := (hσ 4 (notDstB rfl)).trans rfl
        exact rule_e [(4, _)] ⟨e4, trivial⟩ ⟨⟨int (op.length - 1 : Nat), none, 0, 0, ()⟩, rfl, rfl, hS'⟩
      · intro a σ' w' rest hσ hdep hS'   -- 10: indexAddr; pieces:  ..
        have f8 := (hdep 8 _ rfl rfl).2
        have e22 := ((hdep 8 _ rfl rfl).1 22 rfl).trans f8
        have f9 := (hdep 9 _ rfl rfl).2
        have e23 := ((hdep 9 _ rfl rfl).1 23 rfl).trans f9
        exact rule_y (y_idx e22 e23 (by omega) hqs) ⟨⟨ptrAt qo ((op.length - 1) * 1), none, 0, 0, ()⟩, rfl, rfl, hS'⟩
      · intro a σ' w' rest hσ hdep hS'   -- 11: load; pieces:  ..
        have f10 := (hdep 10 _ rfl rfl).2
        have e24 := ((hdep 10 _ rfl rfl).1 24 rfl).trans f10
        exact rule_y (y_load e24 (Sep.sgv hS' 1 rfl) (by rw [Nat.mul_one]; exact hx)) ⟨⟨str x, none, 0, 0, ()⟩, rfl, rfl, hS'⟩
      · intro a σ' w' rest hσ hdep hS'   -- 12: build; pieces:  ..
        have f11 := (hdep 11 _ rfl rfl).2
        have e25 := ((hdep 11 _ rfl rfl).1 25 rfl).trans f11
        exact rule_y (y_build (cells := [int 2, str x, str [], .slice none 0 0]) (by rw [bm2 (x := .const (.int .i64 2)) (y := .tmp 25) (v := int 2) rfl e25]; simp [fillL, setSeg, Value.cells] <;> rfl)) ⟨⟨.agg ⟨[int 2, str x, str [], .slice none 0 0]⟩, none, 0, 0, ()⟩, rfl, rfl, hS'⟩
      · intro a σ' w' rest hσ hdep hS'   -- 13: buildSlice; pieces: sees 14 ..
        have f12 := (hdep 12 _ rfl rfl).2
        have e26 := ((hdep 12 _ rfl rfl).1 26 rfl).trans f12
        obtain ⟨b', w2, hy, hS2⟩ := y_bs1 (P := Tryz.prog) (t := 23) (d := some 27) (x := .tmp 26) (vs := [int 2, str x, str [], .slice none 0 0]) (size := 4) hS' e26 rfl rfl (by decide) (by decide)
        exact rule_y hy ⟨⟨.slice (pb b') 1 1, none, 0, b', ()⟩, rfl, rfl, hS2⟩
      · intro a σ' w' rest hσ hdep hS'   -- 14: call; pieces: takes 13, base 14 ..
        have f4 := (hdep 4 _ rfl rfl).2
        have e18 := ((hdep 4 _ rfl rfl).1 18 rfl).trans f4
        have f13 := (hdep 13 _ rfl rfl).2
        have e27 := ((hdep 13 _ rfl rfl).1 27 rfl).trans f13
        obtain ⟨p2, c2, w2, hy, hS2⟩ := y_app (P := Tryz.prog) (t := 23) (t' := 23) (ty := 23) (d := some 28) (x := .tmp 18) (y := .tmp 27) (n := 1) hS' 1 (hS'.own 0 rfl).sg rfl e18 e27 rfl (by simp [Go.Value.oneCell']) rfl (by decide) (by omega)
        exact rule_y hy ⟨⟨.slice p2 (ms.length + 1) c2, p2, c2, 0, ()⟩, rfl, rfl, hS2.drop 0 rfl⟩
    · intro a σ' w' hσ hA' hS'
      have h0 := hA' 0 _ rfl
      have h14 := hA' 14 _ rfl
      rw [frameOf (σ := σ') [(0, ptrAt (pb b) 0), (4, int (op.length - 1 : Nat)), (5, int k), (6, int i), (14, ptrAt (pb b) 0), (28, .slice (a 14).p (ms.length + 1) (a 14).c)]
        ⟨(hσ 0 (notDst rfl)).trans rfl, (hσ 4 (notDst rfl)).trans rfl, (hσ 5 (notDst rfl)).trans rfl, (hσ 6 (notDst rfl)).trans rfl, (h0.1 14 rfl).trans h0.2, (h14.1 28 rfl).trans h14.2, trivial⟩]
      clear hS
      have hS : Sep w0 w' (pRow 4 (a 14).p (ms.length + 1) (a 14).c (ms.flatMap EvM.cells ++ (closeM x).cells) :: pOwn b [.slice qo op.length co, .slice qg gh.length cg, .bool fr, .slice qt ms.length ct, int dp, .slice qf fs.length cf, .bool true, .bool ov] :: pVw qo (strs op) :: pVw qg (strs gh) :: pMany (ms.map EvM.row) :: pRow 5 qf fs.length cf (fs.flatMap Fi.cells) :: cs) := hS'
      rw [evs_flat, show ms.length + 1 = (ms ++ [closeM x]).length by simp] at hS
      rw [show ms.length + 1 = (ms ++ [closeM x]).length by simp]
      generalize (a 14).p = q5 at *
      generalize (a 14).c = c5 at *
      clear hA' hσ hS' h0 h14
      refine sgo ?_
      refine sst_slice hS 1 fun w6 hS => ?_
      refine sgo ?_
      refine sst_slice hS 1 fun w7 hS => ?_
      refine sgo ?_
      refine sst_slice hS 1 fun w8 hS => ?_
      refine sgo ?_
      refine sst_bool hS 1 fun w9 hS => ?_
      refine sgo ?_
      refine ⟨(i + 1, ⟨⟨op.take (op.length - 1), [], false⟩, qo, op.length - 1, none, 0, ms ++ [closeM x], q5, c5, fs, qf, cf, dp, ov⟩), ⟨rfl, rfl, rfl, trivial⟩, ⟨hlt, ⟨?_, ?_, h3, h4, h5, ?_, Nat.le_refl _⟩, ?_⟩, (by (try dsimp only); omega)⟩
      · show BaS.mk _ _ _ = _
        rw [popB_succ, hol2, hop, List.take_take, Nat.min_eq_left (by omega)]
      · show evs (ms ++ [closeM x]) = _
        rw [evs_snoc, h2, offN_succ _ _ (by omega), hgx]; simp [closeM]
      · show (op.take (op.length - 1)).length ≤ op.length - 1
        rw [List.length_take]; omega
      · have e : (op.take (op.length - 1)).length = op.length - 1 := by rw [List.length_take]; omega
        have hS2 := ((((hS.cutVw 2 rfl (op.length - 1)).toNil 3 rfl none).sel 6 [1, 2, 3, 0, 4, 5]).nilRow 2).tell1
        have ec : (strs op).take (op.length - 1) = strs (op.take (op.length - 1)) := by unfold strs; rw [List.map_take]
        simp only [BaM.plots, BaM.cells, e]
        rw [List.map_append, ← ec]
        exact hS2
  · obtain rfl : i = k := by omega
    refine sgo ?_
    (first | refine fp1 (.inl rfl) rfl rfl ?_ | refine fp2 (.inl rfl) rfl rfl rfl ?_ | refine fp3 (.inl rfl) rfl rfl rfl rfl ?_ | refine fp0 (.inr rfl) rfl ?_ | refine fp0 (.inl rfl) rfl ?_ | refine fp1 (.inr rfl) rfl rfl ?_)
    exact ⟨_, ⟨h1, h2, h3, h4, h5, h6, h7⟩, hS⟩
end Go.Proofs.YtmnnffenijjpcaaGreatDoor

/-
  Package balance: New, ready, find, follow.
-/
set_option linter.unusedSimpArgs false
set_option linter.unusedVariables false
set_option linter.unnecessarySimpa false
namespace Go.Proofs.YtmnnffenijjpcaaGreatDoor
open Go Go.Sv Go.RowKit

/-- a new one -/
def newM (dp : Nat) : BaM := ⟨ba0, none, 0, none, 0, [], none, 0, [], none, 0, dp, false⟩
set_option maxHeartbeats 2000000 in
theorem bNewBad_ok (d : Int) (h : d < 1 ∨ 512 < d) (w : World) : PureC Tryz.prog 14 #[int d] w (.tuple #[.pointer none, int 1]) := by
  have hF := Frm.refl w
  refine enter (l := [int d]) Tryz.func14 rfl Tryz.ntmps14 (by kernel_rfl) rfl ?_
  refine sgo ?_
  refine wcyes ?_ (ht := by rw [pkb_or, Bool.or_eq_true, decide_eq_true_eq, decide_eq_true_eq]; exact h)
  refine sgo ?_
  (first | refine fp1 (.inl rfl) rfl rfl ?_ | refine fp2 (.inl rfl) rfl rfl rfl ?_ | refine fp3 (.inl rfl) rfl rfl rfl rfl ?_ | refine fp0 (.inr rfl) rfl ?_ | refine fp0 (.inl rfl) rfl ?_ | refine fp1 (.inr rfl) rfl rfl ?_); refine ⟨?_, by (first | exact Frm.refl _ | assumption | exact Go.Sv.Sep.frm (by assumption) | (refine Frm.trans ?_ (by assumption); first | exact Frm.refl _ | assumption))⟩; (try simp only [realB, rv_true, Nat.reduceBEq, cond_true, cond_false, entG, real_lif, updGL])
set_option maxHeartbeats 2000000 in
theorem bNew_ok (k : Nat) (h : 1 ≤ k ∧ k ≤ 512) (w0 w : World) (cs : List Plot) (hS : Sep w0 w cs) :
    CallsR Tryz.prog 14 #[int k] w fun v w' => ∃ b, v = .tuple #[ptrAt (pb b) 0, int 0] ∧ Sep w0 w' ((newM k).plots b cs) := by
  refine enter (l := [int k]) Tryz.func14 rfl Tryz.ntmps14 (by kernel_rfl) rfl ?_
  refine sgo ?_
  refine wcno ?_ (ht := by rw [pkb_or, Bool.or_eq_false_iff, decide_eq_false_iff_not, decide_eq_false_iff_not]; omega)
  refine sgo ?_
  refine wlbuild (cells := [.slice none 0 0, .slice none 0 0, .bool false, .slice none 0 0, int k, .slice none 0 0, .bool true, .bool false]) ?_
  refine sgo ?_
  refine sbox (v := .agg ⟨[.slice none 0 0, .slice none 0 0, .bool false, .slice none 0 0, int k, .slice none 0 0, .bool true, .bool false]⟩) hS fun b w1 hS => ?_
  replace hS : Sep w0 w1 (pOwn b [.slice none 0 0, .slice none 0 0, .bool false, .slice none 0 0, int k, .slice none 0 0, .bool true, .bool false] :: cs) := hS
  refine sgo ?_
  (first | refine fp1 (.inl rfl) rfl rfl ?_ | refine fp2 (.inl rfl) rfl rfl rfl ?_ | refine fp3 (.inl rfl) rfl rfl rfl rfl ?_ | refine fp0 (.inr rfl) rfl ?_ | refine fp0 (.inl rfl) rfl ?_ | refine fp1 (.inr rfl) rfl rfl ?_)
  refine ⟨b, rfl, ?_⟩
  have h2 := ((((hS.nilRow 5).zero).nilRow 4).nilVw none).nilVw none
  exact h2.sel 6 [5, 0, 1, 2, 3, 4]
set_option maxHeartbeats 1000000 in
theorem bReady_ok (b : Nat) (v0 v1 v2 v3 v4 v5 : Value) (mk ov : Bool) (w : World) (ho : Own w b [v0, v1, v2, v3, v4, v5, .bool mk, .bool ov]) :
    PureC Tryz.prog 33 #[ptrAt (pb b) 0] w (int (if mk then if ov then 3 else 0 else 2)) := by
  have hF := Frm.refl w
  refine enter (l := [ptrAt (pb b) 0]) Tryz.func33 rfl Tryz.ntmps33 (by kernel_rfl) rfl ?_
  refine sgo ?_
  refine wl ?_ (y_pnil rfl rfl)
  rw [show (Option.map (fun x : Addr => x.add 0) (pb b)).isNone = false from rfl]
  refine sgo ?_
  cases mk with
  | false =>
    refine sgo ?_
    (first | refine fp1 (.inl rfl) rfl rfl ?_ | refine fp2 (.inl rfl) rfl rfl rfl ?_ | refine fp3 (.inl rfl) rfl rfl rfl rfl ?_ | refine fp0 (.inr rfl) rfl ?_ | refine fp0 (.inl rfl) rfl ?_ | refine fp1 (.inr rfl) rfl rfl ?_); refine ⟨?_, by (first | exact Frm.refl _ | assumption | exact Go.Sv.Sep.frm (by assumption) | (refine Frm.trans ?_ (by assumption); first | exact Frm.refl _ | assumption))⟩; (try simp only [realB, rv_true, Nat.reduceBEq, cond_true, cond_false, entG, real_lif, updGL])
    rfl
  | true =>
    refine sgo ?_
    cases ov with
    | true =>
      refine sgo ?_
      (first | refine fp1 (.inl rfl) rfl rfl ?_ | refine fp2 (.inl rfl) rfl rfl rfl ?_ | refine fp3 (.inl rfl) rfl rfl rfl rfl ?_ | refine fp0 (.inr rfl) rfl ?_ | refine fp0 (.inl rfl) rfl ?_ | refine fp1 (.inr rfl) rfl rfl ?_); refine ⟨?_, by (first | exact Frm.refl _ | assumption | exact Go.Sv.Sep.frm (by assumption) | (refine Frm.trans ?_ (by assumption); first | exact Frm.refl _ | assumption))⟩; (try simp only [realB, rv_true, Nat.reduceBEq, cond_true, cond_false, entG, real_lif, updGL])
      rfl
    | false =>
      refine sgo ?_
      (first | refine fp1 (.inl rfl) rfl rfl ?_ | refine fp2 (.inl rfl) rfl rfl rfl ?_ | refine fp3 (.inl rfl) rfl rfl rfl rfl ?_ | refine fp0 (.inr rfl) rfl ?_ | refine fp0 (.inl rfl) rfl ?_ | refine fp1 (.inr rfl) rfl rfl ?_); refine ⟨?_, by (first | exact Frm.refl _ | assumption | exact Go.Sv.Sep.frm (by assumption) | (refine Frm.trans ?_ (by assumption); first | exact Frm.refl _ | assumption))⟩; (try simp only [realB, rv_true, Nat.reduceBEq, cond_true, cond_false, entG, real_lif, updGL])
      rfl
theorem BaM.ready {m : BaM} {b : Nat} {w0 w : World} {cs : List Plot} (hS : Sep w0 w (m.plots b cs)) : PureC Tryz.prog 33 #[ptrAt (pb b) 0] w (int (if m.ov then 3 else 0)) :=
  bReady_ok b _ _ _ _ _ _ true m.ov w (hS.own 0 rfl)
def fiP (b b5 : Nat) (qf : Option Addr) (cf : Nat) (fs : List Fi) (ta tb td : Int) (y : Int) (nm : Nm) : PlanB Unit where
  pl k d := match k with
    | 10 => [pOwn d.b [int ta, int tb, int td, int y, str nm]]
    | 11 => [pRow 5 d.p (fs.length + 1) d.c (fs.flatMap Fi.cells ++ [int ta, int tb, int td, int y, str nm])]
    | _ => []
  con k := match k with
    | 10 => some 11
    | _ => none
  base k := match k with
    | 11 => [pRow 5 qf fs.length cf (fs.flatMap Fi.cells)]
    | _ => []
  fact k a := match k with
    | 0 => (a 0).v = ptrAt (pb b) 0
    | 1 => (a 1).v = ptrAt (pb b) 0
    | 2 => (a 2).v = ptrAt (pb b) 0
    | 3 => (a 3).v = ptrAt (pb b) 5
    | 4 => (a 4).v = .slice qf fs.length cf
    | 5 => (a 5).v = ptrAt (pb b5) 5
    | 6 => (a 6).v = .agg ⟨[int ta, int tb, int td]⟩
    | 7 => (a 7).v = int y
    | 8 => (a 8).v = str nm
    | 9 => (a 9).v = .agg ⟨[int ta, int tb, int td, int y, str nm]⟩
    | 10 => (a 10).v = .slice (pb (a 10).b) 1 1
    | 11 => (a 11).v = .slice (a 11).p (fs.length + 1) (a 11).c
    | 12 => True
    | 13 => True
    | 14 => True
    | _ => True
set_option maxHeartbeats 4000000 in
theorem bFind_ok (m : BaM) (b : Nat) (t : Tok) (p : Option Addr) (c : Nat) (y : Int) (nm : Nm) (hco : m.s.op.length ≤ m.co) (hcg : m.s.gh.length ≤ m.cg) (htl : m.fs.length ≤ 4194304) (w0 w : World) (cs : List Plot) (hS : Sep w0 w (m.plots b cs)) :
    CallsR Tryz.prog 56 #[ptrAt (pb b) 0, .agg ⟨t.cells p c⟩, int y, str nm] w fun _ w' => BaP m b m.s [] [fiT t y nm] w0 cs w' := by
  obtain ⟨⟨op, gh, fr⟩, qo, co, qg, cg, ms, qt, ct, fs, qf, cf, dp, ov⟩ := m
  obtain ⟨tk, tn, tx, te, tf, ta, tb, td⟩ := t
  dsimp only at hco hcg htl
  refine enter (l := [ptrAt (pb b) 0, .agg ⟨Tok.cells ⟨tk, tn, tx, te, tf, ta, tb, td⟩ p c⟩, int y, str nm]) Tryz.func56 rfl Tryz.ntmps56 (by kernel_rfl) rfl ?_
  refine WC_seq ?_
  refine WC_region ?_
  refine sbox (v := .agg ⟨Tok.cells ⟨tk, tn, tx, te, tf, ta, tb, td⟩ p c⟩) hS fun b5 w1 hS => ?_
  replace hS : Sep w0 w1 (pOwn b5 [int tk, str tn, str tx, .slice p te.length c, .bool tf, int ta, int tb, int td] :: pOwn b [.slice qo op.length co, .slice qg gh.length cg, .bool fr, .slice qt ms.length ct, int dp, .slice qf fs.length cf, .bool true, .bool ov] :: pVw qo (strs op) :: pVw qg (strs gh) :: pRow 4 qt ms.length ct (ms.flatMap EvM.cells) :: pMany (ms.map EvM.row) :: pRow 5 qf fs.length cf (fs.flatMap Fi.cells) :: cs) := hS
  replace hS : Sep w0 w1 ([pRow 5 qf fs.length cf (fs.flatMap Fi.cells)] ++ (pOwn b5 [int tk, str tn, str tx, .slice p te.length c, .bool tf, int ta, int tb, int td] :: pOwn b [.slice qo op.length co, .slice qg gh.length cg, .bool fr, .slice qt ms.length ct, int dp, .slice qf fs.length cf, .bool true, .bool ov] :: pVw qo (strs op) :: pVw qg (strs gh) :: pRow 4 qt ms.length ct (ms.flatMap EvM.cells) :: pMany (ms.map EvM.row) :: cs)) := hS.front 6 rfl
  refine sgo ?_
  refine wcplant (b := [pRow 5 qf fs.length cf (fs.flatMap Fi.cells)]) 12 (fiP b b5 qf cf fs ta tb td y nm) ⟨.nilIface, none, 0, 0, ()⟩ hS rfl (fun j oj a a' hj he hd h => ?_) ?_ ?_
  · have hjl : j < 15 := (List.getElem?_eq_some_iff.1 hj).1
    match j, hjl with
    | 0, _ | 1, _ | 2, _ | 3, _ | 4, _ | 5, _ | 6, _ | 7, _ | 8, _ | 9, _ | 10, _ | 11, _ | 12, _ | 13, _ | 14, _ => first | (simp only [fiP] at h ⊢; rw [← he]; exact h) | exact h
  · refine ⟨?_, ?_, ?_, ?_, ?_, ?_, ?_, ?_, ?_, ?_, ?_, ?_, trivial⟩
    · intro a σ' w' rest hσ hdep hS'   -- 0: move; pieces:  ..
      have e0 : σ' 0 = ptrAt (pb b) 0 := (hσ 0 (notDstB rfl)).trans rfl
      exact rule_e [(0, _)] ⟨e0, trivial⟩ ⟨⟨ptrAt (pb b) 0, none, 0, 0, ()⟩, rfl, rfl, hS'⟩
    · intro a σ' w' rest hσ hdep hS'   -- 1: move; pieces:  ..
      have e0 : σ' 0 = ptrAt (pb b) 0 := (hσ 0 (notDstB rfl)).trans rfl
      exact rule_e [(0, _)] ⟨e0, trivial⟩ ⟨⟨ptrAt (pb b) 0, none, 0, 0, ()⟩, rfl, rfl, hS'⟩
    · intro a σ' w' rest hσ hdep hS'   -- 2: nilCheck; pieces:  ..
      have f1 := (hdep 1 _ rfl rfl).2
      have e9 := ((hdep 1 _ rfl rfl).1 9 rfl).trans f1
      exact rule_y (y_nilcheckp e9 ⟨_, rfl⟩) ⟨⟨ptrAt (pb b) 0, none, 0, 0, ()⟩, rfl, rfl, hS'⟩
    · intro a σ' w' rest hσ hdep hS'   -- 3: fieldAddr; pieces:  ..
      have f2 := (hdep 2 _ rfl rfl).2
      have e10 := ((hdep 2 _ rfl rfl).1 10 rfl).trans f2
      exact rule_y (y_field e10 ⟨_, rfl⟩ (by decide)) ⟨⟨ptrAt (pb b) 5, none, 0, 0, ()⟩, rfl, rfl, hS'⟩
    · intro a σ' w' rest hσ hdep hS'   -- 4: load; pieces: sees 11 ..
      have f3 := (hdep 3 _ rfl rfl).2
      have e11 := ((hdep 3 _ rfl rfl).1 11 rfl).trans f3
      exact rule_y (y_load e11 (Sep.sgv hS' 2 rfl) rfl) ⟨⟨.slice qf fs.length cf, none, 0, 0, ()⟩, rfl, rfl, hS'⟩
    · intro a σ' w' rest hσ hdep hS'   -- 5: fieldAddr; pieces:  ..
      have e5 : σ' 5 = ptrAt (pb b5) 0 := (hσ 5 (notDstB rfl)).trans rfl
      exact rule_y (y_field e5 ⟨_, rfl⟩ (by decide)) ⟨⟨ptrAt (pb b5) 5, none, 0, 0, ()⟩, rfl, rfl, hS'⟩
    · intro a σ' w' rest hσ hdep hS'   -- 6: load; pieces:  ..
      have f5 := (hdep 5 _ rfl rfl).2
      have e13 := ((hdep 5 _ rfl rfl).1 13 rfl).trans f5
      exact rule_y (y_loada e13 (Sep.sgv hS' 0 rfl) (Nat.le_of_ble_eq_true rfl) ⟨_, rfl⟩) ⟨⟨.agg ⟨[int ta, int tb, int td]⟩, none, 0, 0, ()⟩, rfl, rfl, hS'⟩
    · intro a σ' w' rest hσ hdep hS'   -- 7: move; pieces:  ..
      have e2 : σ' 2 = int y := (hσ 2 (notDstB rfl)).trans rfl
      exact rule_e [(2, _)] ⟨e2, trivial⟩ ⟨⟨int y, none, 0, 0, ()⟩, rfl, rfl, hS'⟩
    · intro a σ' w' rest hσ hdep hS'   -- 8: move; pieces:  ..
      have e3 : σ' 3 = str nm := (hσ 3 (notDstB rfl)).trans rfl
      exact rule_e [(3, _)] ⟨e3, trivial⟩ ⟨⟨str nm, none, 0, 0, ()⟩, rfl, rfl, hS'⟩
    · intro a σ' w' rest hσ hdep hS'   -- 9: build; pieces:  ..
      have f6 := (hdep 6 _ rfl rfl).2
      have e14 := ((hdep 6 _ rfl rfl).1 14 rfl).trans f6
      have f7 := (hdep 7 _ rfl rfl).2
      have e15 := ((hdep 7 _ rfl rfl).1 15 rfl).trans f7
      have f8 := (hdep 8 _ rfl rfl).2
      have e16 := ((hdep 8 _ rfl rfl).1 16 rfl).trans f8
      exact rule_y (y_build (cells := [int ta, int tb, int td, int y, str nm]) (by rw [bm3 (x := .tmp 14) (y := .tmp 15) (z := .tmp 16) e14 e15 e16]; simp [fillL, setSeg, Value.cells] <;> rfl)) ⟨⟨.agg ⟨[int ta, int tb, int td, int y, str nm]⟩, none, 0, 0, ()⟩, rfl, rfl, hS'⟩
    · intro a σ' w' rest hσ hdep hS'   -- 10: buildSlice; pieces: sees 11 ..
      have f9 := (hdep 9 _ rfl rfl).2
      have e17 := ((hdep 9 _ rfl rfl).1 17 rfl).trans f9
      obtain ⟨b', w2, hy, hS2⟩ := y_bs1 (P := Tryz.prog) (t := 24) (d := some 18) (x := .tmp 17) (vs := [int ta, int tb, int td, int y, str nm]) (size := 5) hS' e17 rfl rfl (by decide) (by decide)
      exact rule_y hy ⟨⟨.slice (pb b') 1 1, none, 0, b', ()⟩, rfl, rfl, hS2⟩
    · intro a σ' w' rest hσ hdep hS'   -- 11: call; pieces: takes 10, base 11 ..
      have f4 := (hdep 4 _ rfl rfl).2
      have e12 := ((hdep 4 _ rfl rfl).1 12 rfl).trans f4
      have f10 := (hdep 10 _ rfl rfl).2
      have e18 := ((hdep 10 _ rfl rfl).1 18 rfl).trans f10
      obtain ⟨p2, c2, w2, hy, hS2⟩ := y_app (P := Tryz.prog) (t := 24) (t' := 24) (ty := 24) (d := some 19) (x := .tmp 12) (y := .tmp 18) (n := 1) hS' 1 (hS'.own 0 rfl).sg rfl e12 e18 rfl (by simp [Go.Value.oneCell']) rfl (by decide) (by omega)
      exact rule_y hy ⟨⟨.slice p2 (fs.length + 1) c2, p2, c2, 0, ()⟩, rfl, rfl, hS2.drop 0 rfl⟩
  · intro a σ' w' hσ hA' hS'
    have h0 := hA' 0 _ rfl
    have h11 := hA' 11 _ rfl
    rw [frameOf (σ := σ') [(8, ptrAt (pb b) 0), (19, .slice (a 11).p (fs.length + 1) (a 11).c)] ⟨(h0.1 8 rfl).trans h0.2, (h11.1 19 rfl).trans h11.2, trivial⟩]
    clear hS
    have hS : Sep w0 w' (pRow 5 (a 11).p (fs.length + 1) (a 11).c (fs.flatMap Fi.cells ++ (Fi.mk ta tb td y nm).cells) :: pOwn b5 [int tk, str tn, str tx, .slice p te.length c, .bool tf, int ta, int tb, int td] :: pOwn b [.slice qo op.length co, .slice qg gh.length cg, .bool fr, .slice qt ms.length ct, int dp, .slice qf fs.length cf, .bool true, .bool ov] :: pVw qo (strs op) :: pVw qg (strs gh) :: pRow 4 qt ms.length ct (ms.flatMap EvM.cells) :: pMany (ms.map EvM.row) :: cs) := hS'
    rw [fis_flat, show fs.length + 1 = (fs ++ [Fi.mk ta tb td y nm]).length by simp] at hS
    rw [show fs.length + 1 = (fs ++ [Fi.mk ta tb td y nm]).length by simp]
    generalize (a 11).p = q5 at *
    generalize (a 11).c = c5 at *
    clear hA' hσ hS' h0 h11
    refine sgo ?_
    refine sst_slice hS 2 fun w6 hS => ?_
    refine sgo ?_
    (first | refine fp1 (.inl rfl) rfl rfl ?_ | refine fp2 (.inl rfl) rfl rfl rfl ?_ | refine fp3 (.inl rfl) rfl rfl rfl rfl ?_ | refine fp0 (.inr rfl) rfl ?_ | refine fp0 (.inl rfl) rfl ?_ | refine fp1 (.inr rfl) rfl rfl ?_)
    refine ⟨⟨⟨op, gh, fr⟩, qo, co, qg, cg, ms, qt, ct, fs ++ [Fi.mk ta tb td y nm], q5, c5, dp, ov⟩, ⟨rfl, (List.append_nil _).symm, rfl, rfl, rfl, hco, hcg⟩, ?_⟩
    exact hS.sel 7 [2, 3, 4, 5, 6, 0]
end Go.Proofs.YtmnnffenijjpcaaGreatDoor

/-
  Package balance: follow.
-/
set_option linter.unusedSimpArgs false
set_option linter.unusedVariables false
set_option linter.unnecessarySimpa false
namespace Go.Proofs.YtmnnffenijjpcaaGreatDoor
open Go Go.Sv Go.RowKit

theorem BaM.to.len {m m' : BaM} {s : BaS} {es : List Ev} {fs : List Fi} (h : m.to m' s es fs) : m'.ms.length = m.ms.length + es.length ∧ m'.fs.length = m.fs.length + fs.length := by
  have h1 := congrArg List.length h.es
  have h2 := congrArg List.length h.fs
  rw [evs_len, List.length_append, evs_len] at h1
  rw [List.length_append] at h2
  exact ⟨h1, h2⟩
theorem pushes_snoc (s : BaS) (l : List Nm) (x : Nm) : pushesB s (l ++ [x]) = pushB (pushesB s l) x := by unfold pushesB; rw [List.foldl_append]; rfl
set_option maxHeartbeats 4000000 in
theorem bFollow_ok (m : BaM) (b : Nat) (t : Tok) (tp : Option Addr) (tc : Nat) (p : PlanR) (q : Option Addr) (c : Nat) (hk : p.ends ≤ m.s.op.length) (hco : m.s.op.length ≤ m.co) (hcg : m.s.gh.length ≤ m.cg) (hb1 : m.s.op.length + p.put.length ≤ 1048576) (hb2 : m.ms.length ≤ 1048576) (hb3 : m.fs.length ≤ 1048576)
    (w0 w : World) (cs : List Plot) (hS : Sep w0 w (m.plots b (pVw q (strs p.put) :: cs))) :
    CallsR Tryz.prog 58 #[ptrAt (pb b) 0, .agg ⟨t.cells tp tc⟩, .agg ⟨[int p.ends, .slice q p.put.length c, .bool p.drop]⟩] w fun _ w' => BaP m b (followB m.s p) (followE m.s p) (followF t p) w0 (pVw q (strs p.put) :: cs) w' := by
  obtain ⟨ends, put, drop, err⟩ := p
  obtain ⟨tk, tn, tx, te, tf, ta, tb, td⟩ := t
  dsimp only at hk hb1 hS ⊢
  have hsl := strs_len put
  refine enter (l := [ptrAt (pb b) 0, .agg ⟨Tok.cells ⟨tk, tn, tx, te, tf, ta, tb, td⟩ tp tc⟩, .agg ⟨[int ends, .slice q put.length c, .bool drop]⟩]) Tryz.func58 rfl Tryz.ntmps58 (by kernel_rfl) rfl ?_
  refine WC_seq ?_
  refine WC_region ?_
  refine sbox (v := .agg ⟨Tok.cells ⟨tk, tn, tx, te, tf, ta, tb, td⟩ tp tc⟩) hS fun b4 w1 hS => ?_
  refine sbox (v := .agg ⟨[int ends, .slice q put.length c, .bool drop]⟩) hS fun b5 w2 hS => ?_
  replace hS : Sep w0 w2 (m.plots b (pOwn b5 [int ends, .slice q put.length c, .bool drop] :: pOwn b4 [int tk, str tn, str tx, .slice tp te.length tc, .bool tf, int ta, int tb, int td] :: pVw q (strs put) :: cs)) := by
    have h := hS.sel 8 [2, 3, 4, 5, 6, 7, 0, 1]
    exact h
  have ho5 := hS.own 6 rfl
  refine sgo ?_
  refine wcdrawt 5 ?_
  refine qgo ?_
  refine QL_nil ?_; intro wd hwd
  replace hS := hS.grow hwd
  refine wlcall (bPop_ok m b ends hk hco hcg (by omega) (by omega) w0 _ _ hS) ?_
  clear hS ho5
  rintro _ w3 ⟨m1, hto, hS⟩
  have ho5 := hS.own 6 rfl
  refine sgo ?_
  refine wcloop (X := Nat × BaM) (fun x => [(0, ptrAt (pb b) 0), (4, ptrAt (pb b4) 0), (15, .slice q put.length c), (16, int put.length), (17, int x.1)])
    (fun x wr => x.1 ≤ put.length ∧ m.to x.2 (pushesB (popB m.s ends) (put.take x.1)) ((offN m.s.op ends).map closeE ++ (put.take x.1).map fun n => opE n []) ((put.take x.1).map (fiT ⟨tk, tn, tx, te, tf, ta, tb, td⟩ 9)) ∧ Sep w0 wr (x.2.plots b (pOwn b5 [int ends, .slice q put.length c, .bool drop] :: pOwn b4 [int tk, str tn, str tx, .slice tp te.length tc, .bool tf, int ta, int tb, int td] :: pVw q (strs put) :: cs)))
    (fun x => put.length - x.1) (0, m1) ⟨rfl, rfl, rfl, rfl, rfl, trivial⟩ ⟨Nat.zero_le _, by simpa [pushesB] using hto, hS⟩ ?_
  clear hS hto ho5 m1
  rintro ⟨i, m2⟩ wr ρ ⟨hil, hto, hS⟩
  dsimp only at *
  have hq := hS.vw 8 rfl
  refine sgo ?_
  (show WC _ _ _ _ _ _ _; first | refine WC_dec rfl (fun hc => ?_) (fun hc => ?_) | refine WC_cond rfl (fun hc => ?_) (fun hc => ?_))
  · have hlt : i < put.length := by omega
    clear hc
    have hx0 : put[i]? = some put[i] := List.getElem?_eq_getElem hlt
    have htk : put.take (i + 1) = put.take i ++ [put[i]] := by rw [List.take_add_one, hx0]; rfl
    generalize put[i] = x at *
    have hx := strs_at hx0
    have hpl : (pushesB (popB m.s ends) (put.take i)).op.length ≤ m.s.op.length + put.length := by
      rw [(pushes_op _ _).1, List.length_append, popB_op, List.length_take, List.length_take]; omega
    have hlen := hto.len
    simp only [List.length_append, List.length_map, offN_len _ _ hk, List.length_take, Nat.min_eq_left hil] at hlen
    have hso := hto.s
    have hqs : ∃ a, q = some a := hq.some (by omega)
    refine sgo ?_
    refine wlcall (bPush_ok m2 b x [] none 0 hto.co hto.cg (by rw [hso]; omega) (by omega) w0 _ _ (hS.nilRow 2)) ?_
    clear hS hq
    rintro _ w4 ⟨m3, hto3, hS⟩
    have ho4 := hS.own 7 rfl
    have hlen3 := hto3.len
    simp only [List.length_nil, List.length_singleton] at hlen3
    refine sgo ?_
    refine wlcall (bFind_ok m3 b ⟨tk, tn, tx, te, tf, ta, tb, td⟩ tp tc 9 x hto3.co hto3.cg (by omega) w0 _ _ hS) ?_
    clear hS ho4
    rintro _ w5 ⟨m4, hto4, hS⟩
    refine sgo ?_
    refine ⟨(i + 1, m4), ⟨rfl, rfl, rfl, rfl, rfl, trivial⟩, ⟨hlt, ?_, hS⟩, (by (try dsimp only); omega)⟩
    have h := (hto.trans hto3).trans hto4
    rw [hto3.s, hso] at h
    dsimp only
    rw [htk, pushes_snoc, List.map_append, List.map_append, ← List.append_assoc]
    simpa using h
  · obtain rfl : i = put.length := by omega
    refine sgo ?_
    (first | refine fp1 (.inl rfl) rfl rfl ?_ | refine fp2 (.inl rfl) rfl rfl rfl ?_ | refine fp3 (.inl rfl) rfl rfl rfl rfl ?_ | refine fp0 (.inr rfl) rfl ?_ | refine fp0 (.inl rfl) rfl ?_ | refine fp1 (.inr rfl) rfl rfl ?_)
    rw [List.take_length] at hto
    exact ⟨m2, hto, hS.sel 9 [0, 1, 2, 3, 4, 5, 8]⟩
end Go.Proofs.YtmnnffenijjpcaaGreatDoor

