/-
  Our texts SvNsA, SvNsB, SvNsC, SvRf, SvEvC, SvEvN, SvTabF, SvKp, SvCtx, SvNsD, SvNsE, SvJmp, SvNsF, SvNsG, SvNsH, SvGen, SvEvW, SvLkE, SvEvX, SvEvY, SvEq, SvTabE, SvEvE, SvEvO, SvEvP, SvEvU, SvEvV, SvEcA, SvGb, joined.
-/
import Derived.Test.YtmnnffenijjpcaaDoorMg3
import Derived.ScopeJumps
import Derived.Laws.StructEq
import Derived.Test.YtmnnffenijjpcaaDoorRows
/-
  Package nest, as a law of lists: what a name asks of a stack; what it asks leaves the stack right.
-/
set_option linter.unusedSimpArgs false
set_option linter.unusedVariables false
set_option linter.unnecessarySimpa false
namespace Go.Proofs.YtmnnffenijjpcaaDoor
open Go Go.Sv Go.RowKit

/-! ## names -/
def nA : List UInt8 := [97]
def nP : List UInt8 := [112]
def nTable : List UInt8 := [116, 97, 98, 108, 101]
def nTbody : List UInt8 := [116, 98, 111, 100, 121]
def nTr : List UInt8 := [116, 114]
def nTd : List UInt8 := [116, 100]
def nTh : List UInt8 := [116, 104]
def nCaption : List UInt8 := [99, 97, 112, 116, 105, 111, 110]
def nColgroup : List UInt8 := [99, 111, 108, 103, 114, 111, 117, 112]
def nThead : List UInt8 := [116, 104, 101, 97, 100]
def nTfoot : List UInt8 := [116, 102, 111, 111, 116]
def nCol : List UInt8 := [99, 111, 108]
def nLi : List UInt8 := [108, 105]
def nUl : List UInt8 := [117, 108]
def nOl : List UInt8 := [111, 108]
def nMenu : List UInt8 := [109, 101, 110, 117]
def nDl : List UInt8 := [100, 108]
def nDd : List UInt8 := [100, 100]
def nDt : List UInt8 := [100, 116]
def nTextarea : List UInt8 := [116, 101, 120, 116, 97, 114, 101, 97]
def nPre : List UInt8 := [112, 114, 101]
abbrev Nm := List UInt8
def isCell (n : Nm) : Bool := decide (n = nTd) || decide (n = nTh) || decide (n = nCaption)
def isWall (n : Nm) : Bool := isCell n || decide (n = nTable)
def isGroup (n : Nm) : Bool := decide (n = nThead) || decide (n = nTbody) || decide (n = nTfoot)
def isLst (n : Nm) : Bool := decide (n = nUl) || decide (n = nOl) || decide (n = nMenu)
def isHead (n : Nm) : Bool := inSet 5 n
def isBlk (n : Nm) : Bool := inSet 6 n
def isAllow (n : Nm) : Bool := inSet 15 n
def isVoid (n : Nm) : Bool := inSet 0 n
def isNm (m : Nm) (n : Nm) : Bool := decide (n = m)
def noNm (_ : Nm) : Bool := false
/-! ## the topmost name that is one, above the topmost that stops -/
def topK (is stops : Nm → Bool) (s : List Nm) : Nat → Option Nat
  | 0 => none
  | k + 1 => if stops (s.getD k []) then none else if is (s.getD k []) then some k else topK is stops s k
def tpm (is stops : Nm → Bool) (s : List Nm) : Option Nat := topK is stops s s.length
def topR (s : List Nm) : Nm := s.getLast?.getD []
theorem topK_app (is stops : Nm → Bool) (s t : List Nm) : ∀ k, k ≤ s.length → topK is stops (s ++ t) k = topK is stops s k
  | 0, _ => rfl
  | k + 1, h => by
    have hg : (s ++ t).getD k [] = s.getD k [] := by
      rw [List.getD_eq_getElem?_getD, List.getD_eq_getElem?_getD, List.getElem?_append_left (by omega)]
    simp only [topK]
    rw [hg, topK_app is stops s t k (by omega)]
theorem tpm_snoc (is stops : Nm → Bool) (s : List Nm) (x : Nm) : tpm is stops (s ++ [x]) = if stops x then none else if is x then some s.length else tpm is stops s := by
  have hg : (s ++ [x]).getD s.length [] = x := by rw [List.getD_eq_getElem?_getD]; simp
  unfold tpm
  rw [List.length_append, List.length_singleton]
  simp only [topK]
  rw [hg, topK_app is stops s [x] s.length (Nat.le_refl _)]
theorem snoc_cases (s : List Nm) : s = [] ∨ ∃ t x, s = t ++ [x] := by
  rcases List.eq_nil_or_concat s with h | ⟨t, x, h⟩
  · exact .inl h
  · exact .inr ⟨t, x, by rw [h, List.concat_eq_append]⟩
theorem snoc_ind {P : List Nm → Prop} (h0 : P []) (h1 : ∀ s x, P s → P (s ++ [x])) : ∀ s, P s := by
  suffices h : ∀ (n : Nat) (s : List Nm), s.length = n → P s from fun s => h _ s rfl
  intro n
  induction n with
  | zero => intro s hs; obtain rfl := List.eq_nil_of_length_eq_zero hs; exact h0
  | succ n ih =>
    intro s hs
    rcases snoc_cases s with rfl | ⟨t, x, rfl⟩
    · cases hs
    · exact h1 t x (ih t (by simpa using hs))
theorem topR_snoc (s : List Nm) (x : Nm) : topR (s ++ [x]) = x := by simp [topR]
theorem tpm_some {is stops : Nm → Bool} {i : Nat} : ∀ {s : List Nm}, tpm is stops s = some i → ∃ x t, s = s.take i ++ (x :: t) ∧ i < s.length ∧ is x = true ∧ stops x = false ∧ ∀ y ∈ t, stops y = false ∧ is y = false := by
  intro s
  refine snoc_ind (P := fun s => tpm is stops s = some i → ∃ x t, s = s.take i ++ (x :: t) ∧ i < s.length ∧ is x = true ∧ stops x = false ∧ ∀ y ∈ t, stops y = false ∧ is y = false) ?_ ?_ s
  · intro h; cases h
  · intro s x ih h
    rw [tpm_snoc] at h
    by_cases hs : stops x = true
    · rw [if_pos hs] at h; cases h
    · rw [if_neg hs] at h
      have hs : stops x = false := by simpa using hs
      by_cases hi : is x = true
      · rw [if_pos hi] at h
        injection h with h
        subst h
        exact ⟨x, [], by simp, by simp, hi, hs, by simp⟩
      · rw [if_neg hi] at h
        have hi : is x = false := by simpa using hi
        obtain ⟨y, t, h1, h2, h3, h4, h5⟩ := ih h
        refine ⟨y, t ++ [x], ?_, by simp; omega, h3, h4, ?_⟩
        · rw [List.take_append_of_le_length (by omega), ← List.cons_append, ← List.append_assoc, ← h1]
        · intro z hz
          rcases List.mem_append.1 hz with hz | hz
          · exact h5 z hz
          · obtain rfl := List.mem_singleton.1 hz; exact ⟨hs, hi⟩
theorem tpm_down {is stops : Nm → Bool} (s : List Nm) : ∀ t : List Nm, tpm is stops (s ++ t) = none → (∀ y ∈ t, stops y = false) → tpm is stops s = none := by
  refine snoc_ind ?_ ?_
  · intro h _; simpa using h
  · intro t x ih h hx
    rw [← List.append_assoc, tpm_snoc, if_neg (by simp [hx x (by simp)])] at h
    split at h
    · cases h
    · exact ih h fun y hy => hx y (by simp [hy])
/-! ## what a name asks -/
def cutW (s : List Nm) : Option Nat → List Nm
  | some i => s.take i
  | none => s
def innerP (n : Nm) : List Nm :=
  if n = nTable then [nTbody, nTr, nTd] else if isGroup n then [nTr, nTd] else if n = nTr then [nTd] else if isLst n then [nLi] else if n = nDl then [nDd] else []
def innerS (s : List Nm) : List Nm := if topR s = nColgroup then s.dropLast else s
def innerR (s : List Nm) : List Nm × List Nm := (innerS s, innerP (topR (innerS s)))
def isPart (n : Nm) : Bool := decide (n = nCaption) || decide (n = nColgroup) || isGroup n || decide (n = nTd) || decide (n = nTh) || decide (n = nCol) || decide (n = nTr)
def stands (name n : Nm) : Bool :=
  if name = nTd ∨ name = nTh then decide (n = nTr) || isGroup n || decide (n = nTable)
  else if name = nCol then decide (n = nColgroup) || decide (n = nTable)
  else if name = nTr then isGroup n || decide (n = nTable)
  else decide (n = nTable)
def partPut (name n : Nm) : List Nm :=
  if name = nTd ∨ name = nTh then (if n = nTr then [] else if n = nTable then [nTbody, nTr] else [nTr])
  else if name = nCol then (if n = nTable then [nColgroup] else [])
  else if name = nTr then (if n = nTable then [nTbody] else [])
  else []
def ownR (name : Nm) (s : List Nm) : List Nm × List Nm :=
  match tpm (stands name) noNm s with
  | some at_ => (s.take (at_ + 1), partPut name (s.getD at_ []))
  | none => (innerS (cutW s (tpm (isNm nP) isWall s)), innerP (topR (innerS (cutW s (tpm (isNm nP) isWall s)))) ++ [nTable] ++ partPut name nTable)
def itemR (is : Nm → Bool) (around : Nm) (s : List Nm) : List Nm × List Nm :=
  match tpm is isWall s with
  | some at_ => (s.take (at_ + 1), [])
  | none => (innerS s, innerP (topR (innerS s)) ++ [around])
def ask0 (s : List Nm) : List Nm := if topR s = nTextarea then s.dropLast else s
def ask1 (name : Nm) (s : List Nm) : List Nm := if name = nA then cutW s (tpm (isNm nA) isCell s) else s
def ask2 (name : Nm) (s : List Nm) : List Nm := if isHead name then cutW s (tpm isHead isWall s) else s
def ask3 (name : Nm) (s : List Nm) : List Nm := if isBlk name then cutW s (tpm (isNm nP) isWall s) else s
def askE (name : Nm) (s : List Nm) : List Nm × List Nm :=
  if isPart name then ownR name s else if name = nLi then itemR isLst nUl s else if name = nDt ∨ name = nDd then itemR (isNm nDl) nDl s else innerR s
def askR (s : List Nm) (name : Nm) : List Nm × List Nm := askE name (ask3 name (ask2 name (ask1 name (ask0 s))))
def stillR (s : List Nm) (name : Nm) : Bool := decide (askR s name = (s, []))
def rightR (s : List Nm) : Bool := (List.range s.length).all fun i => isAllow (s.getD i []) && !isVoid (s.getD i []) && stillR (s.take i) (s.getD i [])
theorem right_snoc (s : List Nm) (x : Nm) : rightR (s ++ [x]) = (rightR s && (isAllow x && !isVoid x && stillR s x)) := by
  unfold rightR
  rw [List.length_append, List.length_singleton, List.range_succ, List.all_append]
  congr 1
  · rw [Bool.eq_iff_iff, List.all_eq_true, List.all_eq_true]
    have hh : ∀ i ∈ List.range s.length, (s ++ [x]).getD i [] = s.getD i [] ∧ (s ++ [x]).take i = s.take i := by
      intro i hi
      have := List.mem_range.1 hi
      refine ⟨?_, List.take_append_of_le_length (by omega)⟩
      rw [List.getD_eq_getElem?_getD, List.getD_eq_getElem?_getD, List.getElem?_append_left (by omega)]
    constructor
    · intro h i hi; have := h i hi; rwa [(hh i hi).1, (hh i hi).2] at this
    · intro h i hi; have := h i hi; rwa [(hh i hi).1, (hh i hi).2]
  · simp [List.getD_eq_getElem?_getD]
theorem right_pre (s : List Nm) : ∀ t : List Nm, rightR (s ++ t) = true → rightR s = true := by
  refine snoc_ind ?_ ?_
  · intro h; simpa using h
  · intro t x ih h
    rw [← List.append_assoc, right_snoc, Bool.and_eq_true] at h
    exact ih h.1
theorem right_take {s : List Nm} (h : rightR s = true) (i : Nat) : rightR (s.take i) = true := right_pre _ (s.drop i) (by rw [List.take_append_drop]; exact h)
/-! ## a name that asks nothing -/
theorem cutW_le (s : List Nm) (o : Option Nat) : (cutW s o).length ≤ s.length := by
  cases o with
  | none => exact Nat.le_refl _
  | some i => simp only [cutW, List.length_take]; omega
theorem cutW_pre (s : List Nm) (o : Option Nat) : ∃ i, cutW s o = s.take i := by
  cases o with
  | none => exact ⟨s.length, by simp [cutW]⟩
  | some i => exact ⟨i, rfl⟩
theorem cut_same {is stops : Nm → Bool} {s : List Nm} (h : (cutW s (tpm is stops s)).length = s.length) : tpm is stops s = none := by
  cases ht : tpm is stops s with
  | none => rfl
  | some i =>
    obtain ⟨x, t, h1, h2, _⟩ := tpm_some ht
    rw [ht] at h
    simp only [cutW, List.length_take] at h
    omega
theorem drop_same {s : List Nm} (hs : s ≠ []) : s.dropLast.length < s.length := by
  have := List.length_pos_iff.2 hs
  rw [List.length_dropLast]; omega
theorem ask0_le (s : List Nm) : (ask0 s).length ≤ s.length := by unfold ask0; split <;> simp
theorem ask1_le (n : Nm) (s : List Nm) : (ask1 n s).length ≤ s.length := by unfold ask1; split; exact cutW_le _ _; exact Nat.le_refl _
theorem ask2_le (n : Nm) (s : List Nm) : (ask2 n s).length ≤ s.length := by unfold ask2; split; exact cutW_le _ _; exact Nat.le_refl _
theorem ask3_le (n : Nm) (s : List Nm) : (ask3 n s).length ≤ s.length := by unfold ask3; split; exact cutW_le _ _; exact Nat.le_refl _
theorem innerS_le (s : List Nm) : (innerS s).length ≤ s.length := by unfold innerS; split <;> simp
theorem askE_le (n : Nm) (s : List Nm) : (askE n s).1.length ≤ s.length := by
  unfold askE
  split
  · unfold ownR
    split
    · simp; omega
    · exact Nat.le_trans (innerS_le _) (cutW_le _ _)
  split
  · unfold itemR
    split
    · simp; omega
    · exact innerS_le _
  split
  · unfold itemR
    split
    · simp; omega
    · exact innerS_le _
  · exact innerS_le _
end Go.Proofs.YtmnnffenijjpcaaDoor

/-
  Package nest, as a law of lists: what a name asks leaves the stack right.
-/
set_option linter.unusedSimpArgs false
set_option linter.unusedVariables false
set_option linter.unnecessarySimpa false
namespace Go.Proofs.YtmnnffenijjpcaaDoor
open Go Go.Sv Go.RowKit

/-! ## facts of the sets -/
theorem in_all {k : Nat} {f : Nm → Bool} (h : (Lib.fields (setT k)).all f = true) {n : Nm} (hn : inSet k n = true) : f n = true := List.all_eq_true.1 h n (of_decide_eq_true hn)
theorem head_facts {n : Nm} (h : isHead n = true) : isBlk n = true ∧ isPart n = false ∧ n ≠ nLi ∧ n ≠ nDt ∧ n ≠ nDd ∧ n ≠ nA ∧ n ≠ nP ∧ isWall n = false := by
  have := in_all (k := 5) (f := fun n => isBlk n && (!isPart n && (!decide (n = nLi) && (!decide (n = nDt) && (!decide (n = nDd) && (!decide (n = nA) && (!decide (n = nP) && !isWall n))))))) (by decide +kernel) h
  simpa using this
theorem const_facts : isBlk nLi = true ∧ isBlk nDt = true ∧ isBlk nDd = true ∧ isBlk nUl = true ∧ isBlk nOl = true ∧ isBlk nMenu = true ∧ isBlk nDl = true ∧ isBlk nTable = true ∧ isBlk nP = true ∧ isBlk nA = false ∧ isHead nA = false ∧ isHead nLi = false ∧ isHead nDt = false ∧ isHead nDd = false ∧ isHead nTable = false ∧ isHead nUl = false ∧ isHead nDl = false ∧ isHead nOl = false ∧ isHead nMenu = false ∧ isHead nP = false := by decide +kernel
theorem part_facts {n : Nm} (h : isPart n = true) : isBlk n = false ∧ isHead n = false ∧ n ≠ nA := by
  simp only [isPart, isGroup, Bool.or_eq_true, decide_eq_true_eq] at h
  rcases h with ((((((rfl | rfl) | ((rfl | rfl) | rfl)) | rfl) | rfl) | rfl) | rfl) <;> decide +kernel
/-- the names that are put in -/
def puts : List Nm := [nTable, nTbody, nTr, nTd, nLi, nDd, nUl, nDl, nColgroup]
theorem put_facts : (puts.all fun n => isAllow n && !isVoid n && !isHead n && !decide (n = nA) && !decide (n = nP) && !decide (n = nTextarea)) = true := by decide +kernel
/-- what a name asks nothing of -/
structure Still (t : List Nm) (x : Nm) : Prop where
  area : topR t ≠ nTextarea
  a : x = nA → tpm (isNm nA) isCell t = none
  head : isHead x = true → tpm isHead isWall t = none
  blk : isBlk x = true → tpm (isNm nP) isWall t = none
  last : askE x t = (t, [])
theorem still_of {t : List Nm} {x : Nm} (h : Still t x) : askR t x = (t, []) := by
  have e0 : ask0 t = t := by unfold ask0; rw [if_neg h.area]
  have e1 : ask1 x t = t := by
    unfold ask1; split
    · rename_i hx; rw [h.a hx]; rfl
    · rfl
  have e2 : ask2 x t = t := by
    unfold ask2; split
    · rename_i hx; rw [h.head hx]; rfl
    · rfl
  have e3 : ask3 x t = t := by
    unfold ask3; split
    · rename_i hx; rw [h.blk hx]; rfl
    · rfl
  unfold askR
  rw [e0, e1, e2, e3]
  exact h.last
theorem of_still {t : List Nm} {x : Nm} (h : askR t x = (t, [])) : Still t x := by
  have hl : (askR t x).1.length = t.length := by rw [h]
  unfold askR at hl
  have l0 := ask0_le t
  have l1 := ask1_le x (ask0 t)
  have l2 := ask2_le x (ask1 x (ask0 t))
  have l3 := ask3_le x (ask2 x (ask1 x (ask0 t)))
  have l4 := askE_le x (ask3 x (ask2 x (ask1 x (ask0 t))))
  have area : topR t ≠ nTextarea := by
    intro ht
    have hne : t ≠ [] := by rintro rfl; revert ht; decide
    have := drop_same hne
    have e : ask0 t = t.dropLast := by unfold ask0; rw [if_pos ht]
    rw [e] at l1 l2 l3 l4 hl
    omega
  have e0 : ask0 t = t := by unfold ask0; rw [if_neg area]
  rw [e0] at l1 l2 l3 l4 hl
  have ha : x = nA → tpm (isNm nA) isCell t = none := by
    intro hx
    refine cut_same ?_
    have e : ask1 x t = cutW t (tpm (isNm nA) isCell t) := by unfold ask1; rw [if_pos hx]
    have := cutW_le t (tpm (isNm nA) isCell t)
    rw [e] at l2 l3 l4 hl
    omega
  have e1 : ask1 x t = t := by
    unfold ask1; split
    · rename_i hx; rw [ha hx]; rfl
    · rfl
  rw [e1] at l2 l3 l4 hl
  have hh : isHead x = true → tpm isHead isWall t = none := by
    intro hx
    refine cut_same ?_
    have e : ask2 x t = cutW t (tpm isHead isWall t) := by unfold ask2; rw [if_pos hx]
    have := cutW_le t (tpm isHead isWall t)
    rw [e] at l3 l4 hl
    omega
  have e2 : ask2 x t = t := by
    unfold ask2; split
    · rename_i hx; rw [hh hx]; rfl
    · rfl
  rw [e2] at l3 l4 hl
  have hb : isBlk x = true → tpm (isNm nP) isWall t = none := by
    intro hx
    refine cut_same ?_
    have e : ask3 x t = cutW t (tpm (isNm nP) isWall t) := by unfold ask3; rw [if_pos hx]
    have := cutW_le t (tpm (isNm nP) isWall t)
    rw [e] at l4 hl
    omega
  have e3 : ask3 x t = t := by
    unfold ask3; split
    · rename_i hx; rw [hb hx]; rfl
    · rfl
  refine ⟨area, ha, hh, hb, ?_⟩
  unfold askR at h
  rwa [e0, e1, e2, e3] at h
theorem right_iff {s : List Nm} {x : Nm} : rightR (s ++ [x]) = true ↔ rightR s = true ∧ isAllow x = true ∧ isVoid x = false ∧ Still s x := by
  rw [right_snoc]
  simp only [Bool.and_eq_true, Bool.not_eq_true', stillR, decide_eq_true_eq]
  constructor
  · rintro ⟨h1, ⟨h2, h3⟩, h4⟩; exact ⟨h1, h2, h3, of_still h4⟩
  · rintro ⟨h1, h2, h3, h4⟩; exact ⟨h1, ⟨h2, h3⟩, still_of h4⟩
/-- an element of a right stack asks nothing of those below it -/
theorem right_at {s t : List Nm} {x : Nm} (h : rightR (s ++ x :: t) = true) : rightR s = true ∧ isAllow x = true ∧ isVoid x = false ∧ Still s x := by
  refine right_iff.1 (right_pre _ t ?_)
  simpa using h
/-! ## what the last step answers -/
theorem top_last {s : List Nm} (h : s ≠ []) : s = s.dropLast ++ [topR s] := by
  rcases snoc_cases s with rfl | ⟨t, x, rfl⟩
  · exact absurd rfl h
  · simp [topR]
theorem askE_part {x : Nm} (h : isPart x = true) (s : List Nm) : askE x s = ownR x s := by unfold askE; rw [if_pos h]
theorem askE_li (s : List Nm) : askE nLi s = itemR isLst nUl s := by unfold askE; rw [if_neg (by decide), if_pos rfl]
theorem askE_d {x : Nm} (h : x = nDt ∨ x = nDd) (s : List Nm) : askE x s = itemR (isNm nDl) nDl s := by
  unfold askE
  rw [if_neg (by rcases h with rfl | rfl <;> decide), if_neg (by rcases h with rfl | rfl <;> decide), if_pos h]
theorem askE_other {x : Nm} (h : isPart x = false) (h1 : x ≠ nLi) (h2 : x ≠ nDt) (h3 : x ≠ nDd) (s : List Nm) : askE x s = innerR s := by
  unfold askE
  rw [if_neg (by simp [h]), if_neg h1, if_neg (by rintro (e | e); exact h2 e; exact h3 e)]
/-- a part asks nothing just where it may stand directly -/
theorem part_still {x : Nm} (hx : isPart x = true) {s : List Nm} {y : Nm} (h1 : stands x y = true) (h2 : partPut x y = []) : askE x (s ++ [y]) = (s ++ [y], []) := by
  rw [askE_part hx]
  unfold ownR
  rw [tpm_snoc, if_neg (by simp [noNm]), if_pos h1]
  dsimp only
  rw [List.take_of_length_le (by simp), show (s ++ [y]).getD s.length [] = y by rw [List.getD_eq_getElem?_getD]; simp, h2]
theorem still_part {x : Nm} (hx : isPart x = true) {s : List Nm} (h : askE x s = (s, [])) : ∃ t y, s = t ++ [y] ∧ stands x y = true ∧ partPut x y = [] := by
  rw [askE_part hx] at h
  unfold ownR at h
  cases ht : tpm (stands x) noNm s with
  | none =>
    rw [ht] at h
    injection h with _ h
    simp at h
  | some i =>
    rw [ht] at h
    obtain ⟨y, t, h1, h2, h3, h4, h5⟩ := tpm_some ht
    injection h with h6 h7
    have hl := congrArg List.length h6
    rw [List.length_take] at hl
    have hti : t = [] := by
      have := congrArg List.length h1
      rw [List.length_append, List.length_take, List.length_cons] at this
      exact List.eq_nil_of_length_eq_zero (by omega)
    subst hti
    refine ⟨s.take i, y, h1, h3, ?_⟩
    rw [← h7]
    congr 1
    conv => rhs; arg 1; rw [h1]
    rw [List.getD_eq_getElem?_getD, List.getElem?_append_right (by rw [List.length_take]; omega), List.length_take, show i - min i s.length = 0 by omega]
    rfl
theorem item_still {is : Nm → Bool} {around : Nm} {s : List Nm} {y : Nm} (h1 : is y = true) (h2 : isWall y = false) : itemR is around (s ++ [y]) = (s ++ [y], []) := by
  unfold itemR
  rw [tpm_snoc, if_neg (by simp [h2]), if_pos h1]
  dsimp only
  rw [List.take_of_length_le (by simp)]
theorem inner_still {s : List Nm} (h1 : topR s ≠ nColgroup) (h2 : innerP (topR s) = []) : innerR s = (s, []) := by
  have e : innerS s = s := by unfold innerS; rw [if_neg h1]
  unfold innerR
  rw [e, h2]
end Go.Proofs.YtmnnffenijjpcaaDoor

/-
  Package nest, as a law of lists: behind what a name asks the stack is right, and the name asks nothing more.
-/
set_option linter.unusedSimpArgs false
set_option linter.unusedVariables false
set_option linter.unnecessarySimpa false
namespace Go.Proofs.YtmnnffenijjpcaaDoor
open Go Go.Sv Go.RowKit

theorem tpm_add {is stops : Nm → Bool} {s : List Nm} (h : tpm is stops s = none) : ∀ t : List Nm, (∀ y ∈ t, is y = false) → tpm is stops (s ++ t) = none := by
  refine snoc_ind ?_ ?_
  · intro _; simpa using h
  · intro t x ih hx
    rw [← List.append_assoc, tpm_snoc]
    split
    · rfl
    · rw [if_neg (by simp [hx x (by simp)])]
      exact ih fun y hy => hx y (by simp [hy])
theorem cut_none {is stops : Nm → Bool} {s : List Nm} (hr : rightR s = true) (hst : ∀ t x, Still t x → is x = true → tpm is stops t = none) : tpm is stops (cutW s (tpm is stops s)) = none := by
  cases h : tpm is stops s with
  | none => exact h
  | some i =>
    obtain ⟨x, t, h1, h2, h3, _⟩ := tpm_some h
    rw [h1] at hr
    exact hst _ x (right_at hr).2.2.2 h3
theorem cut_keep {is is' stops : Nm → Bool} {s : List Nm} (hn : tpm is' stops s = none) : tpm is' stops (cutW s (tpm is stops s)) = none := by
  cases h : tpm is stops s with
  | none => exact hn
  | some i =>
    obtain ⟨x, t, h1, h2, h3, h4, h5⟩ := tpm_some h
    rw [h1] at hn
    refine tpm_down _ (x :: t) hn fun y hy => ?_
    rcases List.mem_cons.1 hy with rfl | hy
    · exact h4
    · exact (h5 y hy).1
theorem take_take' (s : List Nm) (i j : Nat) : ∃ k, (s.take i).take j = s.take k := ⟨min j i, by rw [List.take_take]⟩
theorem ask0_pre (s : List Nm) : ∃ i, ask0 s = s.take i := by
  unfold ask0; split
  · exact ⟨s.length - 1, by rw [List.dropLast_eq_take]⟩
  · exact ⟨s.length, by simp⟩
theorem cutW_pre2 {s u : List Nm} (h : ∃ i, u = s.take i) (o : Option Nat) : ∃ i, cutW u o = s.take i := by
  obtain ⟨i, rfl⟩ := h
  obtain ⟨j, hj⟩ := cutW_pre (s.take i) o
  rw [hj]
  exact take_take' s i j
/-- the stack ahead of the last step -/
def askS (s : List Nm) (name : Nm) : List Nm := ask3 name (ask2 name (ask1 name (ask0 s)))
theorem ask_eq (s : List Nm) (name : Nm) : askR s name = askE name (askS s name) := rfl
theorem askS_pre (s : List Nm) (name : Nm) : ∃ i, askS s name = s.take i := by
  unfold askS ask3 ask2 ask1
  have h0 := ask0_pre s
  have h1 : ∃ i, (if name = nA then cutW (ask0 s) (tpm (isNm nA) isCell (ask0 s)) else ask0 s) = s.take i := by
    split
    · exact cutW_pre2 h0 _
    · exact h0
  generalize (if name = nA then cutW (ask0 s) (tpm (isNm nA) isCell (ask0 s)) else ask0 s) = u1 at *
  have h2 : ∃ i, (if isHead name = true then cutW u1 (tpm isHead isWall u1) else u1) = s.take i := by
    split
    · exact cutW_pre2 h1 _
    · exact h1
  generalize (if isHead name = true then cutW u1 (tpm isHead isWall u1) else u1) = u2 at *
  split
  · exact cutW_pre2 h2 _
  · exact h2
theorem pre_top {s : List Nm} (hr : rightR s = true) {i : Nat} (h : i < s.length) : topR (s.take i) ≠ nTextarea := by
  have e : s = s.take i ++ s[i] :: s.drop (i + 1) := by rw [← List.drop_eq_getElem_cons h, List.take_append_drop]
  rw [e] at hr
  exact (right_at hr).2.2.2.area
theorem pre_area {s : List Nm} (hr : rightR s = true) (hs : topR s ≠ nTextarea) (i : Nat) : topR (s.take i) ≠ nTextarea := by
  rcases Nat.lt_or_ge i s.length with h | h
  · exact pre_top hr h
  · rw [List.take_of_length_le h]; exact hs
theorem askS_area {s : List Nm} (hr : rightR s = true) (name : Nm) : topR (askS s name) ≠ nTextarea := by
  obtain ⟨i, hi⟩ := askS_pre s name
  rcases Nat.lt_or_ge i s.length with h | h
  · rw [hi]; exact pre_top hr h
  · intro ht
    rw [hi, List.take_of_length_le h] at ht
    have hne : s ≠ [] := by rintro rfl; revert ht; decide
    have e : ask0 s = s.dropLast := by unfold ask0; rw [if_pos ht]
    have h1 := drop_same hne
    have l1 := ask1_le name (ask0 s)
    have l2 := ask2_le name (ask1 name (ask0 s))
    have l3 := ask3_le name (ask2 name (ask1 name (ask0 s)))
    have hl : (askS s name).length = s.length := by rw [hi, List.take_of_length_le h]
    unfold askS at hl
    rw [e] at l1 l2 l3 hl
    omega
theorem askS_a {s : List Nm} (hr : rightR s = true) : tpm (isNm nA) isCell (askS s nA) = none := by
  obtain ⟨i, hi⟩ := ask0_pre s
  have h0 : rightR (ask0 s) = true := by rw [hi]; exact right_take hr i
  have e : askS s nA = cutW (ask0 s) (tpm (isNm nA) isCell (ask0 s)) := by
    unfold askS ask3 ask2 ask1
    rw [if_neg (by rw [const_facts.2.2.2.2.2.2.2.2.2.1]; simp), if_neg (by rw [const_facts.2.2.2.2.2.2.2.2.2.2.1]; simp), if_pos rfl]
  rw [e]
  exact cut_none h0 fun t x hs hx => hs.a (by simpa [isNm] using hx)
theorem ask1_not {name : Nm} (h : name ≠ nA) (s : List Nm) : ask1 name s = s := by unfold ask1; rw [if_neg h]
theorem ask2_pre (s : List Nm) (name : Nm) : ∃ i, ask2 name (ask1 name (ask0 s)) = s.take i := by
  unfold ask2 ask1
  have h0 := ask0_pre s
  have h1 : ∃ i, (if name = nA then cutW (ask0 s) (tpm (isNm nA) isCell (ask0 s)) else ask0 s) = s.take i := by
    split
    · exact cutW_pre2 h0 _
    · exact h0
  generalize (if name = nA then cutW (ask0 s) (tpm (isNm nA) isCell (ask0 s)) else ask0 s) = u1 at *
  split
  · exact cutW_pre2 h1 _
  · exact h1
theorem askS_blk {s : List Nm} (hr : rightR s = true) {name : Nm} (hb : isBlk name = true) : tpm (isNm nP) isWall (askS s name) = none := by
  obtain ⟨i, hi⟩ := ask2_pre s name
  have h0 : rightR (ask2 name (ask1 name (ask0 s))) = true := by rw [hi]; exact right_take hr i
  unfold askS ask3
  rw [if_pos hb]
  refine cut_none h0 fun t x hs hx => hs.blk ?_
  have : x = nP := by simpa [isNm] using hx
  rw [this]
  exact const_facts.2.2.2.2.2.2.2.2.1
theorem askS_head {s : List Nm} (hr : rightR s = true) {name : Nm} (hh : isHead name = true) : tpm isHead isWall (askS s name) = none := by
  obtain ⟨hb, _, _, _, _, ha, _, _⟩ := head_facts hh
  obtain ⟨i, hi⟩ := ask0_pre s
  have h0 : rightR (ask0 s) = true := by rw [hi]; exact right_take hr i
  unfold askS
  rw [ask1_not ha]
  unfold ask3 ask2
  rw [if_pos hb, if_pos hh]
  exact cut_keep (cut_none h0 fun t x hs hx => hs.head hx)
theorem ask_pre (s : List Nm) (name : Nm) : ∃ i, (askR s name).1 = s.take i := by
  obtain ⟨i, hi⟩ := askS_pre s name
  rw [ask_eq, hi]
  have hin : ∀ u, (∃ j, u = s.take j) → ∃ j, innerS u = s.take j := by
    rintro u ⟨j, rfl⟩
    unfold innerS
    split
    · rw [List.dropLast_eq_take]; exact take_take' s j _
    · exact ⟨j, rfl⟩
  unfold askE
  split
  · unfold ownR
    split
    · exact take_take' s i _
    · exact hin _ (cutW_pre2 ⟨i, rfl⟩ _)
  split
  · unfold itemR
    split
    · exact take_take' s i _
    · exact hin _ ⟨i, rfl⟩
  split
  · unfold itemR
    split
    · exact take_take' s i _
    · exact hin _ ⟨i, rfl⟩
  · exact hin _ ⟨i, rfl⟩
/-! ## the last steps -/
theorem put_fact {y : Nm} (h : y ∈ puts) : isAllow y = true ∧ isVoid y = false ∧ isHead y = false ∧ y ≠ nA ∧ y ≠ nP ∧ y ≠ nTextarea := by
  have := List.all_eq_true.1 put_facts y h
  simp only [Bool.and_eq_true, Bool.not_eq_true', decide_eq_false_iff_not] at this
  exact ⟨this.1.1.1.1.1, this.1.1.1.1.2, this.1.1.1.2, this.1.1.2, this.1.2, this.2⟩
/-- a part put on the one it stands in -/
theorem part_step {u : List Nm} {x y : Nm} (hr : rightR (u ++ [x]) = true) (hx : x ≠ nTextarea) (hp : isPart y = true) (hy : y ∈ puts) (h1 : stands y x = true) (h2 : partPut y x = []) : rightR (u ++ [x] ++ [y]) = true := by
  obtain ⟨g1, g2, g3⟩ := part_facts hp
  obtain ⟨k1, k2, _⟩ := put_fact hy
  exact right_iff.2 ⟨hr, k1, k2, ⟨by rw [topR_snoc]; exact hx, fun h => absurd h g3, (fun h => by rw [g2] at h; cases h), (fun h => by rw [g1] at h; cases h), part_still hp h1 h2⟩⟩
theorem part_end {u : List Nm} {x y : Nm} (hx : x ≠ nTextarea) (hp : isPart y = true) (h1 : stands y x = true) (h2 : partPut y x = []) : Still (u ++ [x]) y := by
  obtain ⟨g1, g2, g3⟩ := part_facts hp
  exact ⟨by rw [topR_snoc]; exact hx, fun h => absurd h g3, (fun h => by rw [g2] at h; cases h), (fun h => by rw [g1] at h; cases h), part_still hp h1 h2⟩
theorem group_ne {x : Nm} (h : isGroup x = true) : x ≠ nTextarea ∧ x ≠ nTr ∧ x ≠ nTable ∧ x ≠ nColgroup := by
  simp only [isGroup, Bool.or_eq_true, decide_eq_true_eq] at h
  rcases h with (rfl | rfl) | rfl <;> decide
/-- what a part puts in where it may stand -/
theorem part_put {name : Nm} (hp : isPart name = true) {u : List Nm} {x : Nm} (hr : rightR (u ++ [x]) = true) (hs : stands name x = true) :
    rightR (u ++ [x] ++ partPut name x) = true ∧ Still (u ++ [x] ++ partPut name x) name := by
  have hbT : nTbody ∈ puts := by decide
  have hbR : nTr ∈ puts := by decide
  by_cases h1 : name = nTd ∨ name = nTh
  · have hsx := hs
    unfold stands at hsx
    rw [if_pos h1] at hsx
    simp only [Bool.or_eq_true, decide_eq_true_eq] at hsx
    have std : ∀ y, y = nTr → stands name y = true ∧ partPut name y = [] := by
      rintro y rfl
      unfold stands partPut
      rw [if_pos h1, if_pos h1]; exact ⟨rfl, rfl⟩
    rcases hsx with (rfl | hg) | rfl
    · have e : partPut name nTr = [] := (std _ rfl).2
      rw [e, List.append_nil]
      exact ⟨hr, part_end (by decide) hp (std _ rfl).1 e⟩
    · obtain ⟨n1, n2, n3, _⟩ := group_ne hg
      have e : partPut name x = [nTr] := by unfold partPut; rw [if_pos h1, if_neg n2, if_neg n3]
      rw [e]
      have s1 : stands nTr x = true := by unfold stands; rw [if_neg (by decide), if_neg (by decide), if_pos rfl, hg]; rfl
      have s2 : partPut nTr x = [] := by unfold partPut; rw [if_neg (by decide), if_neg (by decide), if_pos rfl, if_neg n3]
      exact ⟨part_step hr n1 (by decide) hbR s1 s2, part_end (by decide) hp (std _ rfl).1 (std _ rfl).2⟩
    · have e : partPut name nTable = [nTbody, nTr] := by unfold partPut; rw [if_pos h1]; decide
      rw [e]
      have r1 := part_step hr (by decide) (y := nTbody) (by decide) hbT (by decide) (by decide)
      have r2 := part_step r1 (by decide) (y := nTr) (by decide) hbR (by decide) (by decide)
      rw [show u ++ [nTable] ++ [nTbody, nTr] = u ++ [nTable] ++ [nTbody] ++ [nTr] by simp]
      exact ⟨r2, part_end (by decide) hp (std _ rfl).1 (std _ rfl).2⟩
  by_cases h2 : name = nCol
  · subst h2
    have hsx := hs
    unfold stands at hsx
    rw [if_neg (by decide), if_pos rfl] at hsx
    simp only [Bool.or_eq_true, decide_eq_true_eq] at hsx
    rcases hsx with rfl | rfl
    · rw [show partPut nCol nColgroup = [] by decide, List.append_nil]
      exact ⟨hr, part_end (by decide) hp (by decide) (by decide)⟩
    · rw [show partPut nCol nTable = [nColgroup] by decide]
      exact ⟨part_step hr (by decide) (by decide) (by decide) (by decide) (by decide), part_end (by decide) hp (by decide) (by decide)⟩
  by_cases h3 : name = nTr
  · subst h3
    have hsx := hs
    unfold stands at hsx
    rw [if_neg (by decide), if_neg (by decide), if_pos rfl] at hsx
    simp only [Bool.or_eq_true, decide_eq_true_eq] at hsx
    rcases hsx with hg | rfl
    · obtain ⟨n1, n2, n3, _⟩ := group_ne hg
      have e : partPut nTr x = [] := by unfold partPut; rw [if_neg (by decide), if_neg (by decide), if_pos rfl, if_neg n3]
      rw [e, List.append_nil]
      exact ⟨hr, part_end n1 hp hs e⟩
    · rw [show partPut nTr nTable = [nTbody] by decide]
      exact ⟨part_step hr (by decide) (by decide) hbT (by decide) (by decide), part_end (by decide) hp (by decide) (by decide)⟩
  · have hsx := hs
    unfold stands at hsx
    rw [if_neg h1, if_neg h2, if_neg h3, decide_eq_true_eq] at hsx
    subst hsx
    have e : partPut name nTable = [] := by unfold partPut; rw [if_neg h1, if_neg h2, if_neg h3]
    rw [e, List.append_nil]
    exact ⟨hr, part_end (by decide) hp hs e⟩
theorem stands_table {name : Nm} (hp : isPart name = true) : stands name nTable = true := by
  simp only [isPart, isGroup, Bool.or_eq_true, decide_eq_true_eq] at hp
  rcases hp with ((((((rfl | rfl) | ((rfl | rfl) | rfl)) | rfl) | rfl) | rfl) | rfl) <;> decide
theorem innerP_puts {y n : Nm} (h : y ∈ innerP n) : y ∈ puts := by
  unfold innerP at h
  revert h
  split
  · intro h; revert y; decide
  split
  · intro h; revert y; decide
  split
  · intro h; revert y; decide
  split
  · intro h; revert y; decide
  split
  · intro h; revert y; decide
  · intro h; cases h
theorem innerS_none {is stops : Nm → Bool} {u : List Nm} (h : tpm is stops u = none) (hc : stops nColgroup = false) : tpm is stops (innerS u) = none := by
  unfold innerS
  split
  · rename_i ht
    have hne : u ≠ [] := by rintro rfl; revert ht; decide
    have e := top_last hne
    rw [ht] at e
    rw [e] at h
    exact tpm_down _ [nColgroup] h (by simp [hc])
  · exact h
theorem inner_none {is stops : Nm → Bool} {u : List Nm} (h : tpm is stops u = none) (hc : stops nColgroup = false) (hp : ∀ y ∈ puts, is y = false) (n : Nm) : tpm is stops (innerS u ++ innerP n) = none :=
  tpm_add (innerS_none h hc) _ fun y hy => hp y (innerP_puts hy)
/-- what is put in by the top -/
theorem inner_right {u : List Nm} (hr : rightR u = true) (ht : topR u ≠ nTextarea) :
    rightR (innerS u ++ innerP (topR (innerS u))) = true ∧ topR (innerS u ++ innerP (topR (innerS u))) ≠ nTextarea ∧ topR (innerS u ++ innerP (topR (innerS u))) ≠ nColgroup ∧ innerP (topR (innerS u ++ innerP (topR (innerS u)))) = [] := by
  obtain ⟨v, hv⟩ : ∃ v, v = innerS u := ⟨_, rfl⟩
  rw [← hv]
  have hvr : rightR v = true ∧ topR v ≠ nTextarea ∧ topR v ≠ nColgroup := by
    rw [hv]
    unfold innerS
    split
    · rename_i hc
      have hne : u ≠ [] := by rintro rfl; revert hc; decide
      have e := top_last hne
      rw [hc] at e
      rw [e] at hr
      obtain ⟨h1, _, _, hs⟩ := right_iff.1 hr
      obtain ⟨t, y, h2, h3, h4⟩ := still_part (x := nColgroup) (by decide) hs.last
      have hy : y = nTable := by
        unfold stands at h3
        rw [if_neg (by decide), if_neg (by decide), if_neg (by decide), decide_eq_true_eq] at h3
        exact h3
      refine ⟨h1, hs.area, ?_⟩
      rw [h2, topR_snoc, hy]; decide
    · rename_i hc
      exact ⟨hr, ht, hc⟩
  clear hv hr ht
  obtain ⟨hr, ht, hc⟩ := hvr
  by_cases hne : v = []
  · subst hne
    exact ⟨by decide, by decide, by decide, by decide⟩
  have e := top_last hne
  obtain ⟨w, hw⟩ : ∃ w, w = v.dropLast := ⟨_, rfl⟩
  obtain ⟨x, hx⟩ : ∃ x, x = topR v := ⟨_, rfl⟩
  rw [← hw, ← hx] at e
  rw [← hx] at ht hc ⊢
  subst e
  clear hw hx hne
  unfold innerP
  by_cases h1 : x = nTable
  · subst h1
    rw [if_pos rfl]
    have r1 := part_step hr (by decide) (y := nTbody) (by decide) (by decide) (by decide) (by decide)
    have r2 := part_step r1 (by decide) (y := nTr) (by decide) (by decide) (by decide) (by decide)
    have r3 := part_step r2 (by decide) (y := nTd) (by decide) (by decide) (by decide) (by decide)
    rw [show w ++ [nTable] ++ [nTbody, nTr, nTd] = w ++ [nTable] ++ [nTbody] ++ [nTr] ++ [nTd] by simp]
    rw [topR_snoc]
    exact ⟨r3, by decide, by decide, by decide⟩
  rw [if_neg h1]
  by_cases h2 : isGroup x = true
  · rw [if_pos h2]
    obtain ⟨n1, n2, n3, _⟩ := group_ne h2
    have s1 : stands nTr x = true := by unfold stands; rw [if_neg (by decide), if_neg (by decide), if_pos rfl, h2]; rfl
    have s2 : partPut nTr x = [] := by unfold partPut; rw [if_neg (by decide), if_neg (by decide), if_pos rfl, if_neg n3]
    have r2 := part_step hr n1 (y := nTr) (by decide) (by decide) s1 s2
    have r3 := part_step r2 (by decide) (y := nTd) (by decide) (by decide) (by decide) (by decide)
    rw [show w ++ [x] ++ [nTr, nTd] = w ++ [x] ++ [nTr] ++ [nTd] by simp]
    rw [topR_snoc]
    exact ⟨r3, by decide, by decide, by decide⟩
  rw [if_neg h2]
  by_cases h3 : x = nTr
  · subst h3
    rw [if_pos rfl]
    have r3 := part_step hr (by decide) (y := nTd) (by decide) (by decide) (by decide) (by decide)
    rw [topR_snoc]
    exact ⟨r3, by decide, by decide, by decide⟩
  rw [if_neg h3]
  have hblk : isBlk x = true → isWall x = false → x ≠ nP → tpm (isNm nP) isWall (w ++ [x]) = none := by
    intro hb hw hp
    rw [tpm_snoc, if_neg (by simp [hw]), if_neg (by simp [isNm, hp])]
    exact (right_iff.1 hr).2.2.2.blk hb
  by_cases h4 : isLst x = true
  · rw [if_pos h4, topR_snoc]
    have hx : isBlk x = true ∧ isWall x = false ∧ x ≠ nP := by
      simp only [isLst, Bool.or_eq_true, decide_eq_true_eq] at h4
      rcases h4 with (rfl | rfl) | rfl <;> decide +kernel
    refine ⟨right_iff.2 ⟨hr, by decide +kernel, by decide +kernel, ?_⟩, by decide, by decide, by decide⟩
    refine ⟨by rw [topR_snoc]; exact ht, (fun h => absurd h (by decide)), (fun h => by rw [const_facts.2.2.2.2.2.2.2.2.2.2.2.1] at h; cases h), fun _ => hblk hx.1 hx.2.1 hx.2.2, ?_⟩
    rw [askE_li]
    exact item_still h4 hx.2.1
  rw [if_neg h4]
  by_cases h5 : x = nDl
  · subst h5
    rw [if_pos rfl, topR_snoc]
    refine ⟨right_iff.2 ⟨hr, by decide +kernel, by decide +kernel, ?_⟩, by decide, by decide, by decide⟩
    refine ⟨by rw [topR_snoc]; exact ht, (fun h => absurd h (by decide)), (fun h => absurd h (by decide +kernel)), fun _ => hblk (by decide +kernel) (by decide) (by decide), ?_⟩
    rw [askE_d (.inr rfl)]
    exact item_still (by decide) (by decide)
  · rw [if_neg h5, List.append_nil, topR_snoc]
    refine ⟨hr, ht, hc, ?_⟩
    rw [if_neg h1, if_neg h2, if_neg h3, if_neg h4, if_neg h5]
theorem around_put {around : Nm} (ha : around = nUl ∨ around = nDl) {v : List Nm} (hv : rightR v = true) (h1 : topR v ≠ nTextarea) (h2 : topR v ≠ nColgroup) (h3 : innerP (topR v) = []) (h4 : tpm (isNm nP) isWall v = none) : rightR (v ++ [around]) = true := by
  have hf : isAllow around = true ∧ isVoid around = false ∧ around ≠ nA ∧ isHead around = false ∧ isPart around = false ∧ around ≠ nLi ∧ around ≠ nDt ∧ around ≠ nDd := by
    rcases ha with rfl | rfl <;> decide +kernel
  refine right_iff.2 ⟨hv, hf.1, hf.2.1, ⟨h1, fun h => absurd h hf.2.2.1, (fun h => by rw [hf.2.2.2.1] at h; cases h), fun _ => h4, ?_⟩⟩
  rw [askE_other hf.2.2.2.2.1 hf.2.2.2.2.2.1 hf.2.2.2.2.2.2.1 hf.2.2.2.2.2.2.2]
  exact inner_still h2 h3
/-- li, dt, dd -/
theorem item_right {name around : Nm} {is : Nm → Bool} (hn : name = nLi ∧ around = nUl ∧ is = isLst ∨ (name = nDt ∨ name = nDd) ∧ around = nDl ∧ is = isNm nDl) {u : List Nm} (hr : rightR u = true) (ht : topR u ≠ nTextarea) (hb : tpm (isNm nP) isWall u = none) :
    rightR ((itemR is around u).1 ++ (itemR is around u).2) = true ∧ Still ((itemR is around u).1 ++ (itemR is around u).2) name := by
  have hf : name ≠ nA ∧ isHead name = false ∧ (∀ s, askE name s = itemR is around s) ∧ is around = true ∧ isWall around = false ∧ around ≠ nTextarea ∧ around ≠ nP ∧ ∀ x, is x = true → x ≠ nTextarea := by
    rcases hn with ⟨rfl, rfl, rfl⟩ | ⟨h, rfl, rfl⟩
    · refine ⟨by decide, by decide +kernel, askE_li, by decide, by decide, by decide, by decide, fun x hx => ?_⟩
      simp only [isLst, Bool.or_eq_true, decide_eq_true_eq] at hx
      rcases hx with (rfl | rfl) | rfl <;> decide
    · refine ⟨by rcases h with rfl | rfl <;> decide, by rcases h with rfl | rfl <;> decide +kernel, askE_d h, by decide, by decide, by decide, by decide, fun x hx => ?_⟩
      have : x = nDl := by simpa [isNm] using hx
      subst this; decide
  obtain ⟨f1, f2, f3, f4, f5, f6, f7, f8⟩ := hf
  have mk : ∀ v, topR v ≠ nTextarea → tpm (isNm nP) isWall v = none → itemR is around v = (v, []) → Still v name := fun v h1 h2 h3 =>
    ⟨h1, fun h => absurd h f1, fun h => (by rw [f2] at h; cases h), fun _ => h2, by rw [f3]; exact h3⟩
  cases h : tpm is isWall u with
  | some i =>
    obtain ⟨x, t, h1, h2, h3, h4, h5⟩ := tpm_some h
    have e : itemR is around u = (u.take i ++ [x], []) := by
      unfold itemR
      rw [h]
      dsimp only
      congr 1
      conv => lhs; rw [h1]
      rw [List.take_append, List.length_take, show i + 1 - min i u.length = 1 by omega, List.take_of_length_le (by rw [List.length_take]; omega)]
      rfl
    rw [e, List.append_nil]
    rw [h1] at hr hb
    have hb2 : tpm (isNm nP) isWall (u.take i ++ [x]) = none := tpm_down _ t (by simpa using hb) fun y hy => (h5 y hy).1
    have hr2 : rightR (u.take i ++ [x]) = true := right_pre _ t (by simpa using hr)
    exact ⟨hr2, mk _ (by rw [topR_snoc]; exact f8 x h3) hb2 (item_still h3 h4)⟩
  | none =>
    have e : itemR is around u = (innerS u, innerP (topR (innerS u)) ++ [around]) := by unfold itemR; rw [h]
    rw [e]
    obtain ⟨k1, k2, k3, k4⟩ := inner_right hr ht
    have k5 := inner_none hb (by decide) (fun y hy => by have := (put_fact hy).2.2.2.2.1; simp [isNm, this]) (topR (innerS u))
    dsimp only
    rw [← List.append_assoc]
    generalize innerS u ++ innerP (topR (innerS u)) = v at *
    refine ⟨around_put (by rcases hn with ⟨_, h, _⟩ | ⟨_, h, _⟩; exact .inl h; exact .inr h) k1 k2 k3 k4 k5, mk _ (by rw [topR_snoc]; exact f6) ?_ (item_still f4 f5)⟩
    exact tpm_add k5 [around] (by simp [isNm, f7])
/-- the parts of a table -/
theorem own_right {name : Nm} (hp : isPart name = true) {u : List Nm} (hr : rightR u = true) (ht : topR u ≠ nTextarea) : rightR ((ownR name u).1 ++ (ownR name u).2) = true ∧ Still ((ownR name u).1 ++ (ownR name u).2) name := by
  cases h : tpm (stands name) noNm u with
  | some i =>
    obtain ⟨x, t, h1, h2, h3, h4, h5⟩ := tpm_some h
    have hg : u.getD i [] = x := by
      conv => lhs; rw [h1]
      rw [List.getD_eq_getElem?_getD, List.getElem?_append_right (by rw [List.length_take]; omega), List.length_take, show i - min i u.length = 0 by omega]
      rfl
    have e : ownR name u = (u.take i ++ [x], partPut name x) := by
      unfold ownR
      rw [h]
      dsimp only
      rw [hg]
      congr 1
      conv => lhs; rw [h1]
      rw [List.take_append, List.length_take, show i + 1 - min i u.length = 1 by omega, List.take_of_length_le (by rw [List.length_take]; omega)]
      rfl
    rw [e]
    rw [h1] at hr
    exact part_put hp (right_pre _ t (by simpa using hr)) h3
  | none =>
    obtain ⟨u2, hu2⟩ : ∃ u2, u2 = cutW u (tpm (isNm nP) isWall u) := ⟨_, rfl⟩
    have e : ownR name u = (innerS u2, innerP (topR (innerS u2)) ++ [nTable] ++ partPut name nTable) := by unfold ownR; rw [h, hu2]
    rw [e]
    obtain ⟨i, hi⟩ := cutW_pre u (tpm (isNm nP) isWall u)
    have hr2 : rightR u2 = true := by rw [hu2, hi]; exact right_take hr i
    have ht2 : topR u2 ≠ nTextarea := by rw [hu2, hi]; exact pre_area hr ht i
    have hb2 : tpm (isNm nP) isWall u2 = none := by
      rw [hu2]
      refine cut_none hr fun t x hs hx => hs.blk ?_
      have : x = nP := by simpa [isNm] using hx
      rw [this]; exact const_facts.2.2.2.2.2.2.2.2.1
    clear hu2 e h
    obtain ⟨k1, k2, k3, k4⟩ := inner_right hr2 ht2
    have k5 := inner_none hb2 (by decide) (fun y hy => by have := (put_fact hy).2.2.2.2.1; simp [isNm, this]) (topR (innerS u2))
    dsimp only
    rw [← List.append_assoc, ← List.append_assoc]
    generalize innerS u2 ++ innerP (topR (innerS u2)) = v at *
    refine part_put hp ?_ (stands_table hp)
    refine right_iff.2 ⟨k1, by decide +kernel, by decide +kernel, ⟨k2, (fun h => absurd h (by decide)), (fun h => absurd h (by decide +kernel)), fun _ => k5, ?_⟩⟩
    rw [askE_other (by decide) (by decide) (by decide) (by decide)]
    exact inner_still k3 k4
/-- behind what a name asks: the stack is right, and the name asks nothing more -/
theorem ask_right {s : List Nm} (hr : rightR s = true) (name : Nm) : rightR ((askR s name).1 ++ (askR s name).2) = true ∧ Still ((askR s name).1 ++ (askR s name).2) name := by
  rw [ask_eq]
  obtain ⟨i, hi⟩ := askS_pre s name
  have hr3 : rightR (askS s name) = true := by rw [hi]; exact right_take hr i
  have ht3 := askS_area hr name
  have hb3 := fun hb => askS_blk hr (name := name) hb
  have hh3 := fun hh => askS_head hr (name := name) hh
  have ha3 : name = nA → tpm (isNm nA) isCell (askS s name) = none := by rintro rfl; exact askS_a hr
  generalize askS s name = u at *
  clear hi hr
  by_cases h1 : isPart name = true
  · rw [askE_part h1]; exact own_right h1 hr3 ht3
  by_cases h2 : name = nLi
  · subst h2
    rw [askE_li]; exact item_right (.inl ⟨rfl, rfl, rfl⟩) hr3 ht3 (hb3 const_facts.1)
  by_cases h3 : name = nDt ∨ name = nDd
  · rw [askE_d h3]
    exact item_right (.inr ⟨h3, rfl, rfl⟩) hr3 ht3 (hb3 (by rcases h3 with rfl | rfl <;> decide +kernel))
  · have hp : isPart name = false := by simpa using h1
    have hd1 : name ≠ nDt := fun h => h3 (.inl h)
    have hd2 : name ≠ nDd := fun h => h3 (.inr h)
    rw [askE_other hp h2 hd1 hd2]
    obtain ⟨k1, k2, k3, k4⟩ := inner_right hr3 ht3
    refine ⟨k1, ⟨k2, fun h => ?_, fun h => ?_, fun h => ?_, ?_⟩⟩
    · exact inner_none (ha3 h) (by decide) (fun y hy => by have := (put_fact hy).2.2.2.1; simp [isNm, this]) _
    · exact inner_none (hh3 h) (by decide) (fun y hy => (put_fact hy).2.2.1) _
    · exact inner_none (hb3 h) (by decide) (fun y hy => by have := (put_fact hy).2.2.2.2.1; simp [isNm, this]) _
    · rw [askE_other hp h2 hd1 hd2]
      exact inner_still k3 k4
end Go.Proofs.YtmnnffenijjpcaaDoor

/-
  Loops over functions, with memory in pieces.
-/
set_option linter.unusedSimpArgs false
set_option linter.unusedVariables false
set_option linter.unnecessarySimpa false
namespace Go.Sv
open Go Go.RowKit
def pLoop (l : Nat) (r : Loop) : Plot where
  foot := [l]
  ok w := LoopAt w l r
  view := (none, [])
  loc _ _ h hb := (hb l (by simp)).trans h
  lt _ h x hx := by rw [List.mem_singleton.1 hx]; exact h.lt
  sg _ _ := .inl rfl
def pDef (D : Nat) : Plot where
  foot := [D]
  ok w := NoDef w D
  view := (none, [])
  loc _ _ h hb := (hb D (by simp)).trans h
  lt _ h x hx := by rw [List.mem_singleton.1 hx]; exact h.lt
  sg _ _ := .inl rfl
section
variable {w0 w w' : World} {cs : List Plot} {l D i : Nat} {r r' : Loop}
theorem Sep.loop (h : Sep w0 w cs) (hf : Frm w w') (hL : LoopAt w' l r) (hN : NoDef w' D) (hl : w.heap.size ≤ l) (hD : w.heap.size ≤ D) (hne : l ≠ D) : Sep w0 w' (pLoop l r :: pDef D :: cs) := by
  refine h.seq (ds := [pLoop l r, pDef D]) ⟨hf, ?_, ?_, ?_⟩
  · intro c hc
    rcases List.mem_cons.1 hc with rfl | hc
    · exact hL
    · rw [List.mem_singleton.1 hc]; exact hN
  · intro c hc x hx
    rcases List.mem_cons.1 hc with rfl | hc
    · rw [List.mem_singleton.1 hx]; exact hl
    · rw [List.mem_singleton.1 hc] at hx; rw [List.mem_singleton.1 hx]; exact hD
  · rw [List.pairwise_cons]
    refine ⟨fun b hb x hx hx' => ?_, List.pairwise_singleton _ _⟩
    rw [List.mem_singleton.1 hb] at hx'
    rw [List.mem_singleton.1 hx] at hx'
    exact hne (List.mem_singleton.1 hx')
theorem Sep.loopAt (h : Sep w0 w cs) (i : Nat) (hi : cs[i]? = some (pLoop l r)) : LoopAt w l r := h.at (c := pLoop l r) i hi
theorem Sep.noDef (h : Sep w0 w cs) (i : Nat) (hi : cs[i]? = some (pDef D)) : NoDef w D := h.at (c := pDef D) i hi
theorem Sep.turnLoop (h : Sep w0 w cs) (i : Nat) (hi : cs[i]? = some (pLoop l r)) (hl : Le [l] w w') (hL : LoopAt w' l r') : Sep w0 w' (cs.set i (pLoop l r')) :=
  h.upd i hi (lm_own hl) hL
/-- a piece that is given away -/
theorem Sep.lose {c : Plot} (h : Sep w0 w (c :: cs)) (hl : Le c.foot w w') : Sep w0 w' cs := by
  have hp := h.apart
  rw [List.pairwise_cons] at hp
  exact h.tail.le hl (fun d hd x hx hm => hp.1 d hd x hm hx) (h.low _ List.mem_cons_self)
theorem Sep.undef (h : Sep w0 w (pDef D :: cs)) : Sep w0 (w.putObj D (.deferred none)) cs := h.lose (le_putObj w D _)
end
end Go.Sv

/-
  Packages event and sieveref18: which events may be.
-/
set_option linter.unusedSimpArgs false
set_option linter.unusedVariables false
set_option linter.unnecessarySimpa false
namespace Go.Sv
open Go Go.RowKit
section
variable {P : Program} {n : Nat} {ds : Ctx} {ops : Array Oper} {Q : Exit → Ctx → Env → World → Prop} {rest : List Oper} {σ : GE} {w : World} {d : Nat} {ty t : TypeId} {pos : String} {af : Array Edge} {zv : Value} {size bytes : Nat} {j dj : Nat} {want b c : Bool}
theorem bm2 {σ : Env} {x y : Operand} {v u : Value} {i k : Nat} (h : evl σ x = v) (h2 : evl σ y = u) : [(i, x), (k, y)].map (fun p => (p.1, evl σ p.2)) = [(i, v), (k, u)] := by simp [h, h2]
theorem bm3 {σ : Env} {x y z : Operand} {v u r : Value} {i k m : Nat} (h : evl σ x = v) (h2 : evl σ y = u) (h3 : evl σ z = r) : [(i, x), (k, y), (m, z)].map (fun p => (p.1, evl σ p.2)) = [(i, v), (k, u), (m, r)] := by simp [h, h2, h3]
end
end Go.Sv
namespace Go.Proofs.YtmnnffenijjpcaaDoor
open Go Go.Sv Go.RowKit

/-- may an event be? -/
def evR (e : Ev) : Bool :=
  if e.kind = 0 then !decide (e.text = []) && validR e.text && decide (e.name = []) && decide (e.attrs.length = 0)
  else if e.kind = 1 then decide (e.text = []) && mayR e.start && !voidR e.name
  else if e.kind = 3 then decide (e.text = []) && mayR e.start && voidR e.name
  else if e.kind = 2 then decide (e.text = []) && decide (e.attrs.length = 0) && mayR e.close
  else false





































































































































































































end Go.Proofs.YtmnnffenijjpcaaDoor

/-
  How events nest: the plain part; the stack of names.
-/
set_option linter.unusedSimpArgs false
set_option linter.unusedVariables false
set_option linter.unnecessarySimpa false
namespace Go.Sv
open Go Go.RowKit
/-- a cut behind a piece of code -/
theorem wcutt {P : Program} {n : Nat} {ds : Ctx} {K : Ctx → Env → World → Prop} {Q : Exit → Ctx → Env → World → Prop} {σ : Env} {w : World} {a : Code} {X : Type} (sl : X → List (Nat × Value)) (I : X → World → Prop)
    (ha : WC P n ds a (thl ds (fun σ w => ∃ x, Has σ (sl x) ∧ I x w) Q) σ w) (hb : ∀ x w (ρ : GE), I x w → K ds (real (updGL ρ (sl x))) w) : WC P n ds a (thn K Q) σ w := by
  refine WC_mono ha ?_
  intro e c' σ' w' h
  unfold thl at h
  unfold thn
  cases e <;> try exact h
  obtain ⟨rfl, x, h1, h2⟩ := h
  have := hb x w' (lif σ') h2
  rw [← real_updL, updL_has h1] at this
  exact this
/-- two worlds that agree on the first B blocks -/
structure Same (B : Nat) (w w' : World) : Prop where
  os : w'.os = w.os
  tape : w'.tape = w.tape
  output : w'.output = w.output
  size : B ≤ w'.heap.size
  block : ∀ k, k < B → w'.heap[k]? = w.heap[k]?
theorem Same.frm {w w1 w2 : World} (h : Frm w w1) (h' : Same w.heap.size w1 w2) : Frm w w2 := ⟨h'.os.trans h.os, h'.tape.trans h.tape, h'.output.trans h.output, h'.size, fun k hk => (h'.block k hk).trans (h.block k hk)⟩
theorem Own.same {B : Nat} {w w' : World} {b : Nat} {l : List Value} (h : Own w b l) (hs : Same B w w') (hb : b < B) : Own w' b l := h.of_block (hs.block b hb)
end Go.Sv
namespace Go.Proofs.YtmnnffenijjpcaaDoor
open Go Go.Sv Go.RowKit

/-! ## The plain part -/
structure Lk where
  stack : List (List UInt8)
  most : Nat
  at_ : Nat
  err : Int
  good : Nat
def lkStep (k : Lk) (e : Ev) : Lk :=
  if k.err = 0 then
    if evR e then
      if e.kind = 1 then ⟨k.stack ++ [e.name], max k.most (k.stack.length + 1), 0, 0, k.good + 1⟩
      else if e.kind = 3 then ⟨k.stack, max k.most (k.stack.length + 1), 0, 0, k.good + 1⟩
      else if e.kind = 2 then (if k.stack.getLast? = some e.name then ⟨k.stack.dropLast, k.most, 0, 0, k.good + 1⟩ else { k with at_ := k.good, err := 181 })
      else ⟨k.stack, k.most, 0, 0, k.good + 1⟩
    else { k with at_ := k.good, err := 180 }
  else k
def lk0 : Lk := ⟨[], 0, 0, 0, 0⟩
/-- how events nest -/
def lkR (l : List Ev) : Lk := l.foldl lkStep lk0
/-! ## A stack of names in memory -/
/-- a stack: where it lies, and its names -/
def pStk (b : Nat) (p : Option Addr) (c : Nat) (st : List (List UInt8)) : List Plot := [pOwn b [.slice p st.length c], pRow 1 p st.length c (strs st)]

































































end Go.Proofs.YtmnnffenijjpcaaDoor

/- This seat's function types as instances (made by a program of ours). -/
namespace Go.Proofs.YtmnnffenijjpcaaDoor
open Go Go.Sv
instance : Agg Tryd.prog 1 false := ⟨_, Tryd.underlying1, rfl⟩
instance : Inf Tryd.prog 1 (.nilFunc) 1 8 := ⟨by kernel_rfl⟩
instance : Agg Tryd.prog 22 false := ⟨_, Tryd.underlying22, rfl⟩
instance : Inf Tryd.prog 22 (.nilFunc) 1 8 := ⟨by kernel_rfl⟩
instance : Agg Tryd.prog 39 false := ⟨_, Tryd.underlying39, rfl⟩
instance : Inf Tryd.prog 39 (.nilFunc) 1 8 := ⟨by kernel_rfl⟩
instance : Agg Tryd.prog 41 false := ⟨_, Tryd.underlying41, rfl⟩
instance : Inf Tryd.prog 41 (.nilFunc) 1 8 := ⟨by kernel_rfl⟩
instance : Agg Tryd.prog 42 false := ⟨_, Tryd.underlying42, rfl⟩
instance : Inf Tryd.prog 42 (.nilFunc) 1 8 := ⟨by kernel_rfl⟩
instance : Agg Tryd.prog 43 false := ⟨_, Tryd.underlying43, rfl⟩
instance : Inf Tryd.prog 43 (.nilFunc) 1 8 := ⟨by kernel_rfl⟩
instance : Agg Tryd.prog 44 false := ⟨_, Tryd.underlying44, rfl⟩
instance : Inf Tryd.prog 44 (.nilFunc) 1 8 := ⟨by kernel_rfl⟩
instance : Agg Tryd.prog 45 false := ⟨_, Tryd.underlying45, rfl⟩
instance : Inf Tryd.prog 45 (.nilFunc) 1 8 := ⟨by kernel_rfl⟩
instance : Agg Tryd.prog 52 false := ⟨_, Tryd.underlying52, rfl⟩
instance : Inf Tryd.prog 52 (.nilFunc) 1 8 := ⟨by kernel_rfl⟩
instance : Agg Tryd.prog 53 false := ⟨_, Tryd.underlying53, rfl⟩
instance : Inf Tryd.prog 53 (.nilFunc) 1 8 := ⟨by kernel_rfl⟩
instance : Agg Tryd.prog 54 false := ⟨_, Tryd.underlying54, rfl⟩
instance : Inf Tryd.prog 54 (.nilFunc) 1 8 := ⟨by kernel_rfl⟩
instance : Agg Tryd.prog 55 false := ⟨_, Tryd.underlying55, rfl⟩
instance : Inf Tryd.prog 55 (.nilFunc) 1 8 := ⟨by kernel_rfl⟩
instance : Agg Tryd.prog 58 false := ⟨_, Tryd.underlying58, rfl⟩
instance : Inf Tryd.prog 58 (.nilFunc) 1 8 := ⟨by kernel_rfl⟩
instance : Agg Tryd.prog 59 false := ⟨_, Tryd.underlying59, rfl⟩
instance : Inf Tryd.prog 59 (.nilFunc) 1 8 := ⟨by kernel_rfl⟩
instance : Agg Tryd.prog 60 false := ⟨_, Tryd.underlying60, rfl⟩
instance : Inf Tryd.prog 60 (.nilFunc) 1 8 := ⟨by kernel_rfl⟩
instance : Agg Tryd.prog 61 false := ⟨_, Tryd.underlying61, rfl⟩
instance : Inf Tryd.prog 61 (.nilFunc) 1 8 := ⟨by kernel_rfl⟩
instance : Agg Tryd.prog 65 false := ⟨_, Tryd.underlying65, rfl⟩
instance : Inf Tryd.prog 65 (.nilFunc) 1 8 := ⟨by kernel_rfl⟩
instance : Agg Tryd.prog 66 false := ⟨_, Tryd.underlying66, rfl⟩
instance : Inf Tryd.prog 66 (.nilFunc) 1 8 := ⟨by kernel_rfl⟩
instance : Agg Tryd.prog 67 false := ⟨_, Tryd.underlying67, rfl⟩
instance : Inf Tryd.prog 67 (.nilFunc) 1 8 := ⟨by kernel_rfl⟩
instance : Agg Tryd.prog 69 false := ⟨_, Tryd.underlying69, rfl⟩
instance : Inf Tryd.prog 69 (.nilFunc) 1 8 := ⟨by kernel_rfl⟩
instance : Agg Tryd.prog 70 false := ⟨_, Tryd.underlying70, rfl⟩
instance : Inf Tryd.prog 70 (.nilFunc) 1 8 := ⟨by kernel_rfl⟩
instance : Agg Tryd.prog 71 false := ⟨_, Tryd.underlying71, rfl⟩
instance : Inf Tryd.prog 71 (.nilFunc) 1 8 := ⟨by kernel_rfl⟩
instance : Agg Tryd.prog 72 false := ⟨_, Tryd.underlying72, rfl⟩
instance : Inf Tryd.prog 72 (.nilFunc) 1 8 := ⟨by kernel_rfl⟩
instance : Agg Tryd.prog 74 false := ⟨_, Tryd.underlying74, rfl⟩
instance : Inf Tryd.prog 74 (.nilFunc) 1 8 := ⟨by kernel_rfl⟩
instance : Agg Tryd.prog 76 false := ⟨_, Tryd.underlying76, rfl⟩
instance : Inf Tryd.prog 76 (.nilFunc) 1 8 := ⟨by kernel_rfl⟩
instance : Agg Tryd.prog 78 false := ⟨_, Tryd.underlying78, rfl⟩
instance : Inf Tryd.prog 78 (.nilFunc) 1 8 := ⟨by kernel_rfl⟩
instance : Agg Tryd.prog 82 false := ⟨_, Tryd.underlying82, rfl⟩
instance : Inf Tryd.prog 82 (.nilFunc) 1 8 := ⟨by kernel_rfl⟩
instance : Agg Tryd.prog 84 false := ⟨_, Tryd.underlying84, rfl⟩
instance : Inf Tryd.prog 84 (.nilFunc) 1 8 := ⟨by kernel_rfl⟩
instance : Agg Tryd.prog 85 false := ⟨_, Tryd.underlying85, rfl⟩
instance : Inf Tryd.prog 85 (.nilFunc) 1 8 := ⟨by kernel_rfl⟩
instance : Agg Tryd.prog 86 false := ⟨_, Tryd.underlying86, rfl⟩
instance : Inf Tryd.prog 86 (.nilFunc) 1 8 := ⟨by kernel_rfl⟩
instance : Agg Tryd.prog 87 false := ⟨_, Tryd.underlying87, rfl⟩
instance : Inf Tryd.prog 87 (.nilFunc) 1 8 := ⟨by kernel_rfl⟩
instance : Agg Tryd.prog 89 false := ⟨_, Tryd.underlying89, rfl⟩
instance : Inf Tryd.prog 89 (.nilFunc) 1 8 := ⟨by kernel_rfl⟩
instance : Agg Tryd.prog 90 false := ⟨_, Tryd.underlying90, rfl⟩
instance : Inf Tryd.prog 90 (.nilFunc) 1 8 := ⟨by kernel_rfl⟩
instance : Agg Tryd.prog 94 false := ⟨_, Tryd.underlying94, rfl⟩
instance : Inf Tryd.prog 94 (.nilFunc) 1 8 := ⟨by kernel_rfl⟩
instance : Agg Tryd.prog 95 false := ⟨_, Tryd.underlying95, rfl⟩
instance : Inf Tryd.prog 95 (.nilFunc) 1 8 := ⟨by kernel_rfl⟩
instance : Agg Tryd.prog 97 false := ⟨_, Tryd.underlying97, rfl⟩
instance : Inf Tryd.prog 97 (.nilFunc) 1 8 := ⟨by kernel_rfl⟩
instance : Agg Tryd.prog 100 false := ⟨_, Tryd.underlying100, rfl⟩
instance : Inf Tryd.prog 100 (.nilFunc) 1 8 := ⟨by kernel_rfl⟩
instance : Agg Tryd.prog 101 false := ⟨_, Tryd.underlying101, rfl⟩
instance : Inf Tryd.prog 101 (.nilFunc) 1 8 := ⟨by kernel_rfl⟩
instance : Agg Tryd.prog 103 false := ⟨_, Tryd.underlying103, rfl⟩
instance : Inf Tryd.prog 103 (.nilFunc) 1 8 := ⟨by kernel_rfl⟩
instance : Agg Tryd.prog 104 false := ⟨_, Tryd.underlying104, rfl⟩
instance : Inf Tryd.prog 104 (.nilFunc) 1 8 := ⟨by kernel_rfl⟩
instance : Agg Tryd.prog 109 false := ⟨_, Tryd.underlying109, rfl⟩
instance : Inf Tryd.prog 109 (.nilFunc) 1 8 := ⟨by kernel_rfl⟩
instance : Agg Tryd.prog 110 false := ⟨_, Tryd.underlying110, rfl⟩
instance : Inf Tryd.prog 110 (.nilFunc) 1 8 := ⟨by kernel_rfl⟩
instance : Agg Tryd.prog 111 false := ⟨_, Tryd.underlying111, rfl⟩
instance : Inf Tryd.prog 111 (.nilFunc) 1 8 := ⟨by kernel_rfl⟩
instance : Agg Tryd.prog 112 false := ⟨_, Tryd.underlying112, rfl⟩
instance : Inf Tryd.prog 112 (.nilFunc) 1 8 := ⟨by kernel_rfl⟩
instance : Agg Tryd.prog 114 false := ⟨_, Tryd.underlying114, rfl⟩
instance : Inf Tryd.prog 114 (.nilFunc) 1 8 := ⟨by kernel_rfl⟩
instance : Agg Tryd.prog 115 false := ⟨_, Tryd.underlying115, rfl⟩
instance : Inf Tryd.prog 115 (.nilFunc) 1 8 := ⟨by kernel_rfl⟩
instance : Agg Tryd.prog 117 false := ⟨_, Tryd.underlying117, rfl⟩
instance : Inf Tryd.prog 117 (.nilFunc) 1 8 := ⟨by kernel_rfl⟩
instance : Agg Tryd.prog 118 false := ⟨_, Tryd.underlying118, rfl⟩
instance : Inf Tryd.prog 118 (.nilFunc) 1 8 := ⟨by kernel_rfl⟩
instance : Agg Tryd.prog 119 false := ⟨_, Tryd.underlying119, rfl⟩
instance : Inf Tryd.prog 119 (.nilFunc) 1 8 := ⟨by kernel_rfl⟩
instance : Agg Tryd.prog 120 false := ⟨_, Tryd.underlying120, rfl⟩
instance : Inf Tryd.prog 120 (.nilFunc) 1 8 := ⟨by kernel_rfl⟩
instance : Agg Tryd.prog 121 false := ⟨_, Tryd.underlying121, rfl⟩
instance : Inf Tryd.prog 121 (.nilFunc) 1 8 := ⟨by kernel_rfl⟩
instance : Agg Tryd.prog 123 false := ⟨_, Tryd.underlying123, rfl⟩
instance : Inf Tryd.prog 123 (.nilFunc) 1 8 := ⟨by kernel_rfl⟩
instance : Agg Tryd.prog 129 false := ⟨_, Tryd.underlying129, rfl⟩
instance : Inf Tryd.prog 129 (.nilFunc) 1 8 := ⟨by kernel_rfl⟩
instance : Agg Tryd.prog 131 false := ⟨_, Tryd.underlying131, rfl⟩
instance : Inf Tryd.prog 131 (.nilFunc) 1 8 := ⟨by kernel_rfl⟩
instance : Agg Tryd.prog 132 false := ⟨_, Tryd.underlying132, rfl⟩
instance : Inf Tryd.prog 132 (.nilFunc) 1 8 := ⟨by kernel_rfl⟩
instance : Agg Tryd.prog 140 false := ⟨_, Tryd.underlying140, rfl⟩
instance : Inf Tryd.prog 140 (.nilFunc) 1 8 := ⟨by kernel_rfl⟩
instance : Agg Tryd.prog 143 false := ⟨_, Tryd.underlying143, rfl⟩
instance : Inf Tryd.prog 143 (.nilFunc) 1 8 := ⟨by kernel_rfl⟩
instance : Agg Tryd.prog 147 false := ⟨_, Tryd.underlying147, rfl⟩
instance : Inf Tryd.prog 147 (.nilFunc) 1 8 := ⟨by kernel_rfl⟩
instance : Agg Tryd.prog 148 false := ⟨_, Tryd.underlying148, rfl⟩
instance : Inf Tryd.prog 148 (.nilFunc) 1 8 := ⟨by kernel_rfl⟩
instance : Agg Tryd.prog 149 false := ⟨_, Tryd.underlying149, rfl⟩
instance : Inf Tryd.prog 149 (.nilFunc) 1 8 := ⟨by kernel_rfl⟩
instance : Agg Tryd.prog 152 false := ⟨_, Tryd.underlying152, rfl⟩
instance : Inf Tryd.prog 152 (.nilFunc) 1 8 := ⟨by kernel_rfl⟩
instance : Agg Tryd.prog 158 false := ⟨_, Tryd.underlying158, rfl⟩
instance : Inf Tryd.prog 158 (.nilFunc) 1 8 := ⟨by kernel_rfl⟩
instance : Agg Tryd.prog 161 false := ⟨_, Tryd.underlying161, rfl⟩
instance : Inf Tryd.prog 161 (.nilFunc) 1 8 := ⟨by kernel_rfl⟩
end Go.Proofs.YtmnnffenijjpcaaDoor

/-
  General steps: what is skipped, what is written, loops over functions (out of several texts).
-/
set_option linter.unusedSimpArgs false
set_option linter.unusedVariables false
set_option linter.unnecessarySimpa false
namespace Go.Sv
open Go Go.RowKit
/-- a guarded operation whose guard says no -/
theorem wlskipg {P : Program} {n : Nat} {ds : Ctx} {ops : Array Oper} {Q : Exit → Ctx → Env → World → Prop} {rest : List Oper} {σ : GE} {w : World} {d : Nat} {op : Op} {ty : TypeId} {pos : String} {af : Array Edge} {j dj : Nat} {want b c : Bool} (v : Value)
    (h : WL P n ds ops Q rest (real (updG σ d ⟨v, false⟩)) w)
    (hj : (ops[j]?).bind (·.dst) = some dj := by rfl) (hσ : σ dj = ⟨.bool c, b⟩ := by rfl) (hgt : (b && (c == want)) = false) :
    WL P n ds ops Q (⟨some d, op, ty, pos, af, some (j, want)⟩ :: rest) (real σ) w := by
  have hw := wanted_real (ops := ops) (o := ⟨some d, op, ty, pos, af, some (j, want)⟩) rfl hj hσ
  rw [hgt] at hw
  refine WL_skip hw ?_
  rw [← real_upd] at h
  exact h
/-- a store into a block of one's own -/
theorem y_sst {P : Program} {σ : Env} {w0 w : World} {cs : List Plot} {ty t : TypeId} {pos : String} {af : Array Edge} {g : Option (Nat × Bool)} {x y : Operand} {zv v : Value} {size bytes b j : Nat} {l : List Value} [hi : Inf P t zv size bytes] (hS : Sep w0 w cs) (i : Nat) (hc : cs[i]? = some (pOwn b l)) (hx : evl σ x = ptrAt (pb b) j) (hy : evl σ y = v) (hv : v.cells.size = size) (hk : j + size ≤ l.length) (h1 : ∀ u ∈ v.cells.toList, u.oneCell' = true) :
    ∃ w', Y P σ ⟨none, .store t x y, ty, pos, af, g⟩ w undef w' ∧ Sep w0 w' (cs.set i (pOwn b (l.take j ++ v.cells.toList ++ l.drop (j + size)))) := by
  obtain ⟨w', hr, h2, h3⟩ := run_store_own (P := P) (t := t) (hS.own i hc) hv hk h1
  refine ⟨w', Y.skip ?_, hS.upd i hc (lm_own h3) h2⟩
  simp only [execOp, hx, hy]
  rw [Sem.run_bind, hr]
  rfl
/-- all blocks of a list as they were -/
def pKeep (w1 : World) (F : List Nat) : Plot where
  foot := F.filter fun b => decide (b < w1.heap.size)
  ok w := ∀ b ∈ F, b < w1.heap.size → w.heap[b]? = w1.heap[b]?
  view := (none, [])
  loc _ _ h hb := fun b hF hlt => (hb b (List.mem_filter.2 ⟨hF, by simpa using hlt⟩)).trans (h b hF hlt)
  lt w h x hx := by
    obtain ⟨h1, h2⟩ := List.mem_filter.1 hx
    have h3 : x < w1.heap.size := by simpa using h2
    have h4 := h x h1 h3
    rw [Array.getElem?_eq_getElem h3] at h4
    exact (Array.getElem?_eq_some_iff.1 h4).1
  sg _ _ := .inl rfl
def feet (cs : List Plot) : List Nat := cs.flatMap Plot.foot
/-- the blocks that belong to no piece -/
def others (w0 w1 : World) (cs : List Plot) : List Nat := (List.range w1.heap.size).filter fun x => decide (w0.heap.size ≤ x) && !(decide (x ∈ feet cs))
section
variable {w0 w1 w2 w w' : World} {cs ds : List Plot} {B : Nat}
theorem Sep.keep (h : Sep w0 w1 cs) : Sep w0 w1 (pKeep w1 (others w0 w1 cs) :: cs) := by
  refine ⟨h.frm, ?_, ?_, ?_⟩
  · intro c hc
    rcases List.mem_cons.1 hc with rfl | hc
    · exact fun _ _ _ => rfl
    · exact h.ok c hc
  · intro c hc x hx
    rcases List.mem_cons.1 hc with rfl | hc
    · have := (List.mem_filter.1 (List.mem_filter.1 hx).1).2
      simp only [Bool.and_eq_true, decide_eq_true_eq] at this
      exact this.1
    · exact h.low c hc x hx
  · rw [List.pairwise_cons]
    refine ⟨fun c hc x hx hx' => ?_, h.apart⟩
    have := (List.mem_filter.1 (List.mem_filter.1 hx).1).2
    simp only [Bool.and_eq_true, Bool.not_eq_true', decide_eq_false_iff_not] at this
    exact this.2 (List.mem_flatMap.2 ⟨c, hc, hx'⟩)
theorem Sep.same (h : Sep w0 w1 cs) (hs : Same B w1 w2) (h0 : w0.heap.size ≤ B) (hB : ∀ x ∈ feet cs, x < B) : Sep w0 w2 cs :=
  ⟨⟨hs.os.trans h.frm.os, hs.tape.trans h.frm.tape, hs.output.trans h.frm.output, Nat.le_trans h0 hs.size, fun k hk => (hs.block k (Nat.lt_of_lt_of_le hk h0)).trans (h.frm.block k hk)⟩,
    fun c hc => c.loc w1 w2 (h.ok c hc) fun x hx => hs.block x (hB x (List.mem_flatMap.2 ⟨c, hc, hx⟩)), h.low, h.apart⟩
theorem Same.mono {B B' : Nat} (h : Same B w w') (hb : B' ≤ B) : Same B' w w' := ⟨h.os, h.tape, h.output, Nat.le_trans hb h.size, fun k hk => h.block k (Nat.lt_of_lt_of_le hk hb)⟩
end
def colls (Ds : List Nat) : List Deferred := Ds.map fun D => { target := .collected D, args := #[] }
theorem loop_fam {P : Program} {n : Nat} {fn : FuncId} {dd : List Deferred} {σ : GE} {ps : List Tmp} {a b : Code} {D l : Nat} {w : World} (hL : LoopAt w l (recOf P n fn dd σ ps a b D .ready none)) : ∃ rc : LoopState → Option Code → Loop, rc = recOf P n fn dd σ ps a b D ∧ LoopAt w l (rc .ready none) := ⟨_, rfl, hL⟩
theorem y_salloc {P : Program} {σ : Env} {w0 w : World} {cs : List Plot} {ty e : TypeId} {pos : String} {af : Array Edge} {g : Option (Nat × Bool)} {d : Option Tmp} {zv : Value} {size bytes : Nat} [hi : Inf P e zv size bytes] (hS : Sep w0 w cs) :
    ∃ b w', Y P σ ⟨d, .alloc e, ty, pos, af, g⟩ w (ptrAt (pb b) 0) w' ∧ Sep w0 w' (pOwn b zv.cells.toList :: cs) := by
  refine ⟨w.heap.size, w.alloc (.cells zv.cells e), Y.val ?_, hS.push (frm_alloc _ _) (own_alloc _ _ _) (by simp [pOwn])⟩
  simp [execOp, Instr.alloc, Sem.run_bind, run_zeroValue (P := P) (t := e), newVar, newRow]
  rfl
end Go.Sv

/-
  Loops and cuts where what is deferred changes; a result that lies in a cell.
-/
set_option linter.unusedSimpArgs false
set_option linter.unusedVariables false
set_option linter.unnecessarySimpa false
namespace Go.Sv
open Go Go.RowKit
section
variable {P : Program} {n : Nat} {Q : Exit → Ctx → Env → World → Prop} {σ : Env} {w : World} {c : Code}
end
/-- a result of one cell that lies in a cell -/
theorem fpc1 {P : Program} {n : Nat} {fn : Func} {R : Value → World → Prop} {σ : Env} {w : World} {tt : Nat} {ty : TypeId} {ex : Exit} {b : Nat} {v : Value} {ds : Ctx} (hex : ex = .ret ∨ ex = .normal) (hr : fn.results = #[.cell tt ty]) (ht : Nat.blt tt n = true) (hp : σ tt = .pointer (pb b)) (ho : Own w b [v])
    [ha : Agg P ty false] (h : R v w) (hd : ds.ds = [] := by rfl) : fpost P n fn R ex ds σ w := by
  refine fp_of hex hd ?_ h
  have hp' : (act n ds.ds σ).tmps.getD tt undef = .pointer (pb b) := by rw [act_getD ht]; exact hp
  have hp2 : (act n ds.ds σ).tmps[tt]?.getD undef = .pointer (pb b) := by simpa using hp'
  obtain ⟨T, ho⟩ := ho
  have hc : w.cell? ⟨b, 0, none⟩ = some v := by rw [cell_of_row w b 0 _ _ _ ho]; rfl
  simp [results, hr, hp2, asAddr, pb, loadVar, run_isAgg (P := P) (t := ty), hc]
end Go.Sv

/-
  Package nest: the small functions; down; topmost.
-/
set_option linter.unusedSimpArgs false
set_option linter.unusedVariables false
set_option linter.unnecessarySimpa false
namespace Go.Sv
open Go Go.RowKit
/-- a function's value that asks a name something -/
def Fv (P : Program) (w : World) (v : Value) (p : List UInt8 → Bool) : Prop :=
  ∃ (f : FuncId) (first cap : List Value), Fnc P f ∧ v = .func (.func f) ⟨first⟩ ⟨cap⟩ ∧ ∀ w', Frm w w' → ∀ n : List UInt8, PureC P f (first ++ [str n] ++ cap).toArray w' (.bool (p n))
theorem Fv.frm {P : Program} {w w' : World} {v : Value} {p : List UInt8 → Bool} (h : Fv P w v p) (hf : Frm w w') : Fv P w' v p := by
  obtain ⟨f, first, cap, h1, h2, h3⟩ := h
  exact ⟨f, first, cap, h1, h2, fun w2 hf2 => h3 w2 (hf.trans hf2)⟩
end Go.Sv
namespace Go.Proofs.YtmnnffenijjpcaaDoor
open Go Go.Sv Go.RowKit

theorem nCell_ok (n : Nm) (w : World) : PureC Tryd.prog 61 #[str n] w (.bool (isCell n)) := by
  refine enter (l := [str n]) Tryd.func61 rfl Tryd.ntmps61 (by kernel_rfl) rfl ?_
  refine sgo ?_
  (first | refine fp1 (.inl rfl) rfl rfl ?_ | refine fp2 (.inl rfl) rfl rfl rfl ?_ | refine fp3 (.inl rfl) rfl rfl rfl rfl ?_ | refine fp0 (.inr rfl) rfl ?_ | refine fp0 (.inl rfl) rfl ?_ | refine fp1 (.inr rfl) rfl rfl ?_); refine ⟨?_, by (first | exact Frm.refl _ | assumption | exact Go.Sv.Sep.frm (by assumption) | (refine Frm.trans ?_ (by assumption); first | exact Frm.refl _ | assumption))⟩; (try simp only [realB, rv_true, Nat.reduceBEq, cond_true, cond_false, entG, real_lif, updGL])
  rw [pkb_or, pkb_or]
  rfl
theorem nWall_ok (n : Nm) (w : World) : PureC Tryd.prog 53 #[str n] w (.bool (isWall n)) := by
  refine enter (l := [str n]) Tryd.func53 rfl Tryd.ntmps53 (by kernel_rfl) rfl ?_
  refine sgo ?_
  refine wlpure (nCell_ok n _) fun w1 hf1 => ?_
  refine sgo ?_
  (first | refine fp1 (.inl rfl) rfl rfl ?_ | refine fp2 (.inl rfl) rfl rfl rfl ?_ | refine fp3 (.inl rfl) rfl rfl rfl rfl ?_ | refine fp0 (.inr rfl) rfl ?_ | refine fp0 (.inl rfl) rfl ?_ | refine fp1 (.inr rfl) rfl rfl ?_); refine ⟨?_, by (first | exact Frm.refl _ | assumption | exact Go.Sv.Sep.frm (by assumption) | (refine Frm.trans ?_ (by assumption); first | exact Frm.refl _ | assumption))⟩; (try simp only [realB, rv_true, Nat.reduceBEq, cond_true, cond_false, entG, real_lif, updGL])
  rw [pkb_or]
  rfl
theorem nGroup_ok (n : Nm) (w : World) : PureC Tryd.prog 46 #[str n] w (.bool (isGroup n)) := by
  refine enter (l := [str n]) Tryd.func46 rfl Tryd.ntmps46 (by kernel_rfl) rfl ?_
  refine sgo ?_
  (first | refine fp1 (.inl rfl) rfl rfl ?_ | refine fp2 (.inl rfl) rfl rfl rfl ?_ | refine fp3 (.inl rfl) rfl rfl rfl rfl ?_ | refine fp0 (.inr rfl) rfl ?_ | refine fp0 (.inl rfl) rfl ?_ | refine fp1 (.inr rfl) rfl rfl ?_); refine ⟨?_, by (first | exact Frm.refl _ | assumption | exact Go.Sv.Sep.frm (by assumption) | (refine Frm.trans ?_ (by assumption); first | exact Frm.refl _ | assumption))⟩; (try simp only [realB, rv_true, Nat.reduceBEq, cond_true, cond_false, entG, real_lif, updGL])
  rw [pkb_or, pkb_or]
  rfl
theorem nList_ok (n : Nm) (w : World) : PureC Tryd.prog 47 #[str n] w (.bool (isLst n)) := by
  refine enter (l := [str n]) Tryd.func47 rfl Tryd.ntmps47 (by kernel_rfl) rfl ?_
  refine sgo ?_
  (first | refine fp1 (.inl rfl) rfl rfl ?_ | refine fp2 (.inl rfl) rfl rfl rfl ?_ | refine fp3 (.inl rfl) rfl rfl rfl rfl ?_ | refine fp0 (.inr rfl) rfl ?_ | refine fp0 (.inl rfl) rfl ?_ | refine fp1 (.inr rfl) rfl rfl ?_); refine ⟨?_, by (first | exact Frm.refl _ | assumption | exact Go.Sv.Sep.frm (by assumption) | (refine Frm.trans ?_ (by assumption); first | exact Frm.refl _ | assumption))⟩; (try simp only [realB, rv_true, Nat.reduceBEq, cond_true, cond_false, entG, real_lif, updGL])
  rw [pkb_or, pkb_or]
  rfl
theorem nHead_ok (n : Nm) (w : World) (hA : Asc w) : PureC Tryd.prog 54 #[str n] w (.bool (isHead n)) := by
  refine enter (l := [str n]) Tryd.func54 rfl Tryd.ntmps54 (by kernel_rfl) rfl ?_
  refine sgo ?_
  refine wlpure (inK_ok 5 (by decide) n _ hA) fun w1 hf1 => ?_
  refine sgo ?_
  (first | refine fp1 (.inl rfl) rfl rfl ?_ | refine fp2 (.inl rfl) rfl rfl rfl ?_ | refine fp3 (.inl rfl) rfl rfl rfl rfl ?_ | refine fp0 (.inr rfl) rfl ?_ | refine fp0 (.inl rfl) rfl ?_ | refine fp1 (.inr rfl) rfl rfl ?_); refine ⟨?_, by (first | exact Frm.refl _ | assumption | exact Go.Sv.Sep.frm (by assumption) | (refine Frm.trans ?_ (by assumption); first | exact Frm.refl _ | assumption))⟩; (try simp only [realB, rv_true, Nat.reduceBEq, cond_true, cond_false, entG, real_lif, updGL])
  rfl
theorem nNever_ok (n : Nm) (w : World) : PureC Tryd.prog 55 #[str n] w (.bool (noNm n)) := by
  refine enter (l := [str n]) Tryd.func55 rfl Tryd.ntmps55 (by kernel_rfl) rfl ?_
  refine sgo ?_
  (first | refine fp1 (.inl rfl) rfl rfl ?_ | refine fp2 (.inl rfl) rfl rfl rfl ?_ | refine fp3 (.inl rfl) rfl rfl rfl rfl ?_ | refine fp0 (.inr rfl) rfl ?_ | refine fp0 (.inl rfl) rfl ?_ | refine fp1 (.inr rfl) rfl rfl ?_); refine ⟨?_, by (first | exact Frm.refl _ | assumption | exact Go.Sv.Sep.frm (by assumption) | (refine Frm.trans ?_ (by assumption); first | exact Frm.refl _ | assumption))⟩; (try simp only [realB, rv_true, Nat.reduceBEq, cond_true, cond_false, entG, real_lif, updGL])
  rfl
theorem fvCell (w : World) : Fv Tryd.prog w (.func (.func 61) #[] #[]) isCell := ⟨_, [], [], inferInstance, rfl, fun w' _ n => nCell_ok n w'⟩
theorem fvWall (w : World) : Fv Tryd.prog w (.func (.func 53) #[] #[]) isWall := ⟨_, [], [], inferInstance, rfl, fun w' _ n => nWall_ok n w'⟩
theorem fvList (w : World) : Fv Tryd.prog w (.func (.func 47) #[] #[]) isLst := ⟨_, [], [], inferInstance, rfl, fun w' _ n => nList_ok n w'⟩
theorem fvNever (w : World) : Fv Tryd.prog w (.func (.func 55) #[] #[]) noNm := ⟨_, [], [], inferInstance, rfl, fun w' _ n => nNever_ok n w'⟩
theorem fvHead (w : World) (hA : Asc w) : Fv Tryd.prog w (.func (.func 54) #[] #[]) isHead := ⟨_, [], [], inferInstance, rfl, fun w' hf n => nHead_ok n w' (hA.frm hf)⟩
theorem named1_ok (n m : Nm) (b : Nat) (w : World) (ho : Sg w (pb b) [str m]) : PureC Tryd.prog 72 #[str n, ptrAt (pb b) 0] w (.bool (isNm m n)) := by
  refine enter (l := [str n, ptrAt (pb b) 0]) Tryd.func72 rfl Tryd.ntmps72 (by kernel_rfl) rfl ?_
  refine sgo ?_
  (first | refine fp1 (.inl rfl) rfl rfl ?_ | refine fp2 (.inl rfl) rfl rfl rfl ?_ | refine fp3 (.inl rfl) rfl rfl rfl rfl ?_ | refine fp0 (.inr rfl) rfl ?_ | refine fp0 (.inl rfl) rfl ?_ | refine fp1 (.inr rfl) rfl rfl ?_); refine ⟨?_, by (first | exact Frm.refl _ | assumption | exact Go.Sv.Sep.frm (by assumption) | (refine Frm.trans ?_ (by assumption); first | exact Frm.refl _ | assumption))⟩; (try simp only [realB, rv_true, Nat.reduceBEq, cond_true, cond_false, entG, real_lif, updGL])
  rfl
/-- named: a function's value -/
theorem named_ok (m : Nm) (w0 w : World) (cs : List Plot) (hS0 : Sep w0 w cs) : CallsR Tryd.prog 52 #[str m] w fun v w' => Frm w w' ∧ Fv Tryd.prog w' v (isNm m) := by
  have hS := Sep.start w
  refine enter (l := [str m]) Tryd.func52 rfl Tryd.ntmps52 (by kernel_rfl) rfl ?_
  refine sgo ?_
  refine sbox (v := str m) hS fun b w1 hS => ?_
  replace hS : Sep w w1 [pOwn b [str m]] := hS
  refine sgo ?_
  (first | refine fp1 (.inl rfl) rfl rfl ?_ | refine fp2 (.inl rfl) rfl rfl rfl ?_ | refine fp3 (.inl rfl) rfl rfl rfl rfl ?_ | refine fp0 (.inr rfl) rfl ?_ | refine fp0 (.inl rfl) rfl ?_ | refine fp1 (.inr rfl) rfl rfl ?_)
  refine ⟨hS.frm, _, [], [ptrAt (pb b) 0], inferInstance, rfl, fun w' hf n => ?_⟩
  exact named1_ok n m b w' (((hS.own 0 rfl).im (M := []) (by simp)).frm hf).sg
theorem nTop_ok (s : List Nm) (q : Option Addr) (c : Nat) (hl : s.length ≤ 4194304) (w : World) (hi : Im [] w q (strs s)) : PureC Tryd.prog 45 #[.slice q s.length c] w (str (topR s)) := by
  have hsl := strs_len s
  refine enter (l := [.slice q s.length c]) Tryd.func45 rfl Tryd.ntmps45 (by kernel_rfl) rfl ?_
  refine sgo ?_
  (show WC _ _ _ _ _ _ _; first | refine WC_dec rfl (fun hc => ?_) (fun hc => ?_) | refine WC_cond rfl (fun hc => ?_) (fun hc => ?_))
  · have h0 : s = [] := List.eq_nil_of_length_eq_zero (by omega)
    subst h0
    refine sgo ?_
    (first | refine fp1 (.inl rfl) rfl rfl ?_ | refine fp2 (.inl rfl) rfl rfl rfl ?_ | refine fp3 (.inl rfl) rfl rfl rfl rfl ?_ | refine fp0 (.inr rfl) rfl ?_ | refine fp0 (.inl rfl) rfl ?_ | refine fp1 (.inr rfl) rfl rfl ?_); refine ⟨?_, by (first | exact Frm.refl _ | assumption | exact Go.Sv.Sep.frm (by assumption) | (refine Frm.trans ?_ (by assumption); first | exact Frm.refl _ | assumption))⟩; (try simp only [realB, rv_true, Nat.reduceBEq, cond_true, cond_false, entG, real_lif, updGL])
    rfl
  · have h0 : 0 < s.length := by omega
    have hx : s[s.length - 1]? = some (topR s) := by
      unfold topR
      rw [List.getLast?_eq_getElem?, List.getElem?_eq_getElem (by omega)]
      rfl
    have hxv := strs_at hx
    have hps : ∃ a, q = some a := hi.some (by omega)
    have i1 : ((s.length : Int) - 1).toNat = s.length - 1 := by omega
    generalize topR s = x at *
    clear hc
    refine sgo ?_
    rw [i1]
    refine sgo ?_
    (first | refine fp1 (.inl rfl) rfl rfl ?_ | refine fp2 (.inl rfl) rfl rfl rfl ?_ | refine fp3 (.inl rfl) rfl rfl rfl rfl ?_ | refine fp0 (.inr rfl) rfl ?_ | refine fp0 (.inl rfl) rfl ?_ | refine fp1 (.inr rfl) rfl rfl ?_); refine ⟨?_, by (first | exact Frm.refl _ | assumption | exact Go.Sv.Sep.frm (by assumption) | (refine Frm.trans ?_ (by assumption); first | exact Frm.refl _ | assumption))⟩; (try simp only [realB, rv_true, Nat.reduceBEq, cond_true, cond_false, entG, real_lif, updGL])
end Go.Proofs.YtmnnffenijjpcaaDoor

/-
  Package nest: down, topmost.
-/
set_option linter.unusedSimpArgs false
set_option linter.unusedVariables false
set_option linter.unnecessarySimpa false
namespace Go.Proofs.YtmnnffenijjpcaaDoor
open Go Go.Sv Go.RowKit

set_option maxHeartbeats 2000000 in
/-- down, called with yield: from the top -/
theorem down1_ok (lr bS : Nat) (s : List Nm) (q : Option Addr) (c : Nat) (hl : s.length ≤ 4194304) (J Jx : Nat → World → Prop)
    (hJE : ∀ k w, J k w → Sg w (pb bS) [.slice q s.length c] ∧ Im [] w q (strs s)) (hst : ∀ k w w', J k w → Frm w w' → J k w')
    (hY : ∀ k w x, J (k + 1) w → s[k]? = some x → Yld Tryd.prog lr [int k, str x] w fun bb w' => if bb = true then J k w' else Jx k w') (w : World) (h0 : J s.length w) :
    CallsR Tryd.prog 86 #[.func (.yield lr) #[] #[], ptrAt (pb bS) 0] w fun _ w' => J 0 w' ∨ ∃ k, k < s.length ∧ Jx k w' := by
  have hE0 := (hJE _ _ h0).1
  have hsl := strs_len s
  refine enter (l := [.func (.yield lr) #[] #[], ptrAt (pb bS) 0]) Tryd.func86 rfl Tryd.ntmps86 (by kernel_rfl) rfl ?_
  refine sgo ?_
  refine wcloop (X := Nat) (fun k => [(0, .func (.yield lr) #[] #[]), (1, ptrAt (pb bS) 0), (3, .int .i64 ((k : Int) - 1))]) (fun k wr => k ≤ s.length ∧ J k wr) (fun k => k) s.length ⟨rfl, rfl, rfl, trivial⟩ ⟨Nat.le_refl _, h0⟩ ?_
  clear h0 hE0
  rintro k wr ρ ⟨hk, hJ⟩
  obtain ⟨hE, hI⟩ := hJE _ _ hJ
  cases k with
  | zero =>
    refine sgo ?_
    (first | refine fp1 (.inl rfl) rfl rfl ?_ | refine fp2 (.inl rfl) rfl rfl rfl ?_ | refine fp3 (.inl rfl) rfl rfl rfl rfl ?_ | refine fp0 (.inr rfl) rfl ?_ | refine fp0 (.inl rfl) rfl ?_ | refine fp1 (.inr rfl) rfl rfl ?_)
    exact .inl hJ
  | succ k =>
    have hx : s[k]? = some s[k] := List.getElem?_eq_getElem (by omega)
    have hxv := strs_at hx
    have hps : ∃ a, q = some a := hI.some (by omega)
    have hyl := hY k wr _ hJ hx
    generalize s[k] = x at *
    rw [show (((k + 1 : Nat) : Int) - 1) = (k : Int) by omega]
    refine sgo ?_
    (show WC _ _ _ _ _ _ _; first | refine WC_dec rfl (fun hc => ?_) (fun hc => ?_) | refine WC_cond rfl (fun hc => ?_) (fun hc => ?_))
    · refine sgo ?_
      refine wlyield hyl fun bb w2 hbb => ?_
      cases bb with
      | true =>
        refine sgo ?_
        exact ⟨k, ⟨rfl, rfl, rfl, trivial⟩, ⟨by omega, hbb⟩, by omega⟩
      | false =>
        refine sgo ?_
        (first | refine fp1 (.inl rfl) rfl rfl ?_ | refine fp2 (.inl rfl) rfl rfl rfl ?_ | refine fp3 (.inl rfl) rfl rfl rfl rfl ?_ | refine fp0 (.inr rfl) rfl ?_ | refine fp0 (.inl rfl) rfl ?_ | refine fp1 (.inr rfl) rfl rfl ?_)
        exact .inr ⟨k, by omega, hbb⟩
    · omega
theorem down_ok (s : List Nm) (q : Option Addr) (c : Nat) (w0 w : World) (cs : List Plot) (hS : Sep w0 w cs) : CallsR Tryd.prog 73 #[.slice q s.length c] w fun v w' => ∃ b, v = .func (.func 86) #[] #[ptrAt (pb b) 0] ∧ Sep w0 w' (pOwn b [.slice q s.length c] :: cs) := by
  refine enter (l := [.slice q s.length c]) Tryd.func73 rfl Tryd.ntmps73 (by kernel_rfl) rfl ?_
  refine sgo ?_
  refine sbox (v := .slice q s.length c) hS fun b w1 hS => ?_
  refine sgo ?_
  (first | refine fp1 (.inl rfl) rfl rfl ?_ | refine fp2 (.inl rfl) rfl rfl rfl ?_ | refine fp3 (.inl rfl) rfl rfl rfl rfl ?_ | refine fp0 (.inr rfl) rfl ?_ | refine fp0 (.inl rfl) rfl ?_ | refine fp1 (.inr rfl) rfl rfl ?_)
  exact ⟨b, rfl, hS⟩
/-- the answer of topmost -/
def placeV (o : Option Nat) : Value := match o with
  | some i => int i
  | none => .int .i64 (-1)
theorem topK_step {is stops : Nm → Bool} {s : List Nm} {k : Nat} {x : Nm} (h : s[k]? = some x) : topK is stops s (k + 1) = if stops x then none else if is x then some k else topK is stops s k := by
  simp only [topK]
  rw [List.getD_eq_getElem?_getD, h]; rfl
set_option maxHeartbeats 4000000 in
theorem topmost_ok (s : List Nm) (q : Option Addr) (c : Nat) (hl : s.length ≤ 4194304) (v1 v2 : Value) (is stops : Nm → Bool) (w : World) (hi : Im [] w q (strs s)) (h1 : Fv Tryd.prog w v1 is) (h2 : Fv Tryd.prog w v2 stops) :
    PureC Tryd.prog 56 #[.slice q s.length c, v1, v2] w (placeV (tpm is stops s)) := by
  obtain ⟨f1, fs1, cp1, hf1, rfl, hc1⟩ := h1
  obtain ⟨f2, fs2, cp2, hf2, rfl, hc2⟩ := h2
  have hS := Sep.start w
  refine enter (l := [.slice q s.length c, .func (.func f1) ⟨fs1⟩ ⟨cp1⟩, .func (.func f2) ⟨fs2⟩ ⟨cp2⟩]) Tryd.func56 rfl Tryd.ntmps56 (by kernel_rfl) rfl ?_
  refine sgo ?_
  refine sbox (v := .func (.func f1) ⟨fs1⟩ ⟨cp1⟩) hS fun b4 w1 hS => ?_
  refine sgo ?_
  refine sbox (v := .func (.func f2) ⟨fs2⟩ ⟨cp2⟩) hS fun b5 w2 hS => ?_
  refine sgo ?_
  refine salloc hS fun b6 w3 hS => ?_
  replace hS : Sep w w3 [pOwn b6 [int 0], pOwn b5 [.func (.func f2) ⟨fs2⟩ ⟨cp2⟩], pOwn b4 [.func (.func f1) ⟨fs1⟩ ⟨cp1⟩]] := hS
  refine sgo ?_
  refine wlcall (down_ok s q c w _ _ hS) ?_
  repeat clear hS
  rintro _ w4 ⟨bS, rfl, hS⟩
  obtain ⟨R, hR⟩ : ∃ R, R = tpm is stops s := ⟨_, rfl⟩
  rw [← hR]
  unfold tpm at hR
  refine sgo ?_
  refine wcrangef (cap := [ptrAt (pb bS) 0]) rfl rfl ?_
  intro fn lr D wa hD hlr hne hfa hLo hN
  obtain ⟨rc, hrc, hLo⟩ := loop_fam hLo
  replace hS := hS.loop hfa hLo hN hlr hD hne
  clear hLo hN hfa
  refine CallsR.mono (down1_ok lr bS s q c hl
    (fun k w' => topK is stops s k = R ∧ Sep w w' [pLoop lr (rc .ready none), pDef D, pOwn bS [.slice q s.length c], pOwn b6 [int 0], pOwn b5 [.func (.func f2) ⟨fs2⟩ ⟨cp2⟩], pOwn b4 [.func (.func f1) ⟨fs1⟩ ⟨cp1⟩]])
    (fun _ w' => Sep w w' [pLoop lr (rc .done (some .ret)), pDef D, pOwn bS [.slice q s.length c], pOwn b6 [placeV R], pOwn b5 [.func (.func f2) ⟨fs2⟩ ⟨cp2⟩], pOwn b4 [.func (.func f1) ⟨fs1⟩ ⟨cp1⟩]])
    ?_ ?_ ?_ wa ⟨hR.symm, hS⟩) ?_
  · rintro k w' ⟨_, hS⟩
    exact ⟨(hS.own 2 rfl).sg, hi.frm hS.frm⟩
  · rintro k w' w'' ⟨h, hS⟩ hf
    exact ⟨h, hS.grow hf⟩
  · repeat clear hS
    subst hrc
    rintro k w' x ⟨hk, hS⟩ hx
    rw [topK_step hx] at hk
    refine yld_of (hS.loopAt 0 rfl) rfl (by kernel_rfl) ?_
    refine sgo ?_
    refine ⟨hS.loopAt 0 rfl, fun w11 hl11 hL11 => ?_⟩
    replace hS := hS.turnLoop 0 rfl hl11 hL11
    obtain ⟨rb, hrb, hL11⟩ : ∃ rb : Loop, rb = _ ∧ LoopAt w11 lr rb := ⟨_, rfl, hL11⟩
    have hs5 : Sg w11 (pb b5) [.func (.func f2) ⟨fs2⟩ ⟨cp2⟩] := (hS.own 4 rfl).sg
    have hs4 : Sg w11 (pb b4) [.func (.func f1) ⟨fs1⟩ ⟨cp1⟩] := (hS.own 5 rfl).sg
    refine sgo ?_
    refine wlcallv (hc2 _ hS.frm x) ?_
    rintro _ w12 ⟨rfl, hf12⟩
    replace hS := hS.grow hf12
    clear hs4
    have hs4 : Sg w12 (pb b4) [.func (.func f1) ⟨fs1⟩ ⟨cp1⟩] := (hS.own 5 rfl).sg
    cases h2 : stops x with
    | true =>
      rw [h2, if_pos rfl] at hk
      refine sgo ?_
      refine sst_int hS 3 fun w13 hS => ?_
      refine sgo ?_
      refine rnd_ret (hS.loopAt 0 rfl) fun w18 hl18 hL18 => ?_
      replace hS := hS.turnLoop 0 rfl hl18 hL18
      rw [← hk]
      exact hS
    | false =>
      rw [h2, if_neg Bool.false_ne_true] at hk
      refine sgo ?_
      refine wlcallv (hc1 _ hS.frm x) ?_
      rintro _ w13 ⟨rfl, hf13⟩
      replace hS := hS.grow hf13
      cases h1 : is x with
      | true =>
        rw [h1, if_pos rfl] at hk
        refine sgo ?_
        refine sst_int hS 3 fun w14 hS => ?_
        refine sgo ?_
        refine rnd_ret (hS.loopAt 0 rfl) fun w18 hl18 hL18 => ?_
        replace hS := hS.turnLoop 0 rfl hl18 hL18
        rw [← hk]
        exact hS
      | false =>
        rw [h1, if_neg Bool.false_ne_true] at hk
        refine sgo ?_
        refine rnd_normal (hS.loopAt 0 rfl) fun w18 hl18 hL18 => ?_
        exact ⟨hk, hS.turnLoop 0 rfl hl18 hL18⟩
  · repeat clear hS
    rintro v wb (⟨hk, hS⟩ | ⟨k, hk, hS⟩)
    · refine ⟨.ready, none, by simp, by rw [← hrc]; exact hS.loopAt 0 rfl, fun wc hlc => aft_none ?_⟩
      replace hS := Sep.lose hS hlc
      refine sgo ?_
      refine sst_int hS 2 fun w14 hS => ?_
      refine sgo ?_
      refine fp_mark (.inl rfl) (hS.noDef 0 rfl) ?_
      replace hS := hS.undef
      refine fpc1 (.inl rfl) rfl rfl rfl (hS.own 1 rfl) ⟨?_, hS.frm⟩
      rw [← hk]; rfl
    · refine ⟨.done, some .ret, by simp, by rw [← hrc]; exact hS.loopAt 0 rfl, fun wc hlc => aft_ret ?_⟩
      replace hS := Sep.lose hS hlc
      refine sgo ?_
      refine fp_mark (.inl rfl) (hS.noDef 0 rfl) ?_
      replace hS := hS.undef
      exact fpc1 (.inl rfl) rfl rfl rfl (hS.own 1 rfl) ⟨rfl, hS.frm⟩
end Go.Proofs.YtmnnffenijjpcaaDoor

/-
  A scope in which the run jumps back to its label, once.
-/
set_option linter.unusedSimpArgs false
set_option linter.unusedVariables false
set_option linter.unnecessarySimpa false
namespace Go.Sv
open Go Go.RowKit
/-- what a jump leaves -/
def jmpq (l : Nat) (c : Ctx) (K : Env → World → Prop) (Q : Exit → Ctx → Env → World → Prop) : Exit → Ctx → Env → World → Prop
  | .goto l', c', σ, w => l' = l ∧ c' = c ∧ K σ w
  | e, c', σ, w => Q e c' σ w
section
variable {P : Program} {n l : Nat} {ds : Ctx} {Q : Exit → Ctx → Env → World → Prop} {K : Ctx → Env → World → Prop} {L : Env → World → Prop} {σ : Env} {w : World} {c rest : Code}
end
/-- a cut behind a piece of code that stands in a block -/
theorem wcutj {P : Program} {n i : Nat} {ds : Ctx} {K : Ctx → Env → World → Prop} {Q : Exit → Ctx → Env → World → Prop} {σ : Env} {w : World} {a : Code} {X : Type} (sl : X → List (Nat × Value)) (I : X → World → Prop)
    (ha : WC P n ds a (blk i (thl ds (fun σ w => ∃ x, Has σ (sl x) ∧ I x w) Q)) σ w) (hb : ∀ x w (ρ : GE), I x w → K ds (real (updGL ρ (sl x))) w) : WC P n ds a (blk i (thn K Q)) σ w := by
  refine WC_mono ha ?_
  have hn : ∀ c' σ' w', thl ds (fun σ w => ∃ x, Has σ (sl x) ∧ I x w) Q .normal c' σ' w' → thn K Q .normal c' σ' w' := by
    intro c' σ' w' h
    unfold thl at h
    unfold thn
    obtain ⟨rfl, x, h1, h2⟩ := h
    have := hb x w' (lif σ') h2
    rw [← real_updL, updL_has h1] at this
    exact this
  intro e c' σ' w' h
  unfold blk at h ⊢
  cases e with
  | normal => exact hn _ _ _ h
  | exit j =>
    dsimp only at h ⊢
    cases hj : Nat.beq j i with
    | true => rw [hj] at h; exact hn _ _ _ h
    | false => rw [hj] at h; unfold thl at h; unfold thn; exact h
  | _ => unfold thl at h; unfold thn; exact h
theorem Sep.asRow {w0 w : World} {b size n : Nat} {l : List Value} {cs : List Plot} (h : Sep w0 w (pOwn b l :: cs)) (hl : l.length = n * size) (hn : n ≤ 9223372036854775807) : Sep w0 w (pRow size (pb b) n n l :: cs) :=
  h.turn (c' := pRow size (pb b) n n l) 0 rfl (fun h => Row.of_own h hl hn) fun _ hx => hx
theorem Sep.nilRow {w0 w : World} {cs : List Plot} (h : Sep w0 w cs) (size : Nat) : Sep w0 w (pRow size none 0 0 [] :: cs) := h.push (Frm.refl w) (Row.nil w size) (by simp [pRow, rb])
attribute [irreducible] jmpq
end Go.Sv

/-
  Package nest: a stack that is made ready: with, to, inner, item.
-/
set_option linter.unusedSimpArgs false
set_option linter.unusedVariables false
set_option linter.unnecessarySimpa false
namespace Go.Proofs.YtmnnffenijjpcaaDoor
open Go Go.Sv Go.RowKit

/-- a work in memory -/
def wkP (b : Nat) (q : Option Addr) (c : Nat) (u : List Nm) (p : Option Addr) (d : Nat) (put : List Nm) (cs : List Plot) : List Plot :=
  pOwn b [.slice q u.length c, .slice p put.length d] :: pRow 1 p put.length d (strs put) :: cs
theorem strs_take (u : List Nm) (i : Nat) : strs (u.take i) = (strs u).take i := by simp [strs]
theorem strs_dropLast (u : List Nm) : strs u.dropLast = (strs u).take (u.length - 1) := by rw [List.dropLast_eq_take, strs_take]
theorem len_take {u : List Nm} {i : Nat} (h : i ≤ u.length) : (u.take i).length = i := by rw [List.length_take]; omega
theorem nTo_ok (b : Nat) (q : Option Addr) (c : Nat) (u : List Nm) (x : Value) (i : Int) (h0 : 0 ≤ i + 1) (hi : i + 1 ≤ u.length) (hc : u.length ≤ c) (hl : u.length ≤ 4194304) (w0 w : World) (cs : List Plot) (hS : Sep w0 w (pOwn b [.slice q u.length c, x] :: cs)) :
    CallsR Tryd.prog 59 #[ptrAt (pb b) 0, .int .i64 i] w fun _ w' => Sep w0 w' (pOwn b [.slice q (u.take (i + 1).toNat).length c, x] :: cs) := by
  have hlt : (u.take (i + 1).toNat).length = (i + 1).toNat := len_take (by omega)
  rw [hlt]
  obtain ⟨k, hk⟩ : ∃ k : Nat, (k : Int) = i + 1 := ⟨(i + 1).toNat, by omega⟩
  obtain rfl : i = (k : Int) - 1 := by omega
  rw [show ((k : Int) - 1 + 1).toNat = k by omega]
  refine enter (l := [ptrAt (pb b) 0, .int .i64 ((k : Int) - 1)]) Tryd.func59 rfl Tryd.ntmps59 (by kernel_rfl) rfl ?_
  refine sgo ?_
  rw [show ((k : Int) - 1 + 1) = (k : Int) by omega]
  refine sgo ?_
  refine sst_slice hS 0 fun w1 hS => ?_
  refine sgo ?_
  (first | refine fp1 (.inl rfl) rfl rfl ?_ | refine fp2 (.inl rfl) rfl rfl rfl ?_ | refine fp3 (.inl rfl) rfl rfl rfl rfl ?_ | refine fp0 (.inr rfl) rfl ?_ | refine fp0 (.inl rfl) rfl ?_ | refine fp1 (.inr rfl) rfl rfl ?_)
  exact hS
theorem cut_len {u : List Nm} {is stops : Nm → Bool} {i : Nat} (h : tpm is stops u = some i) : i < u.length := by
  obtain ⟨_, _, _, h2, _⟩ := tpm_some h
  exact h2
theorem nWith_ok (b : Nat) (q : Option Addr) (c : Nat) (u : List Nm) (x : Value) (o : Option Nat) (ho : ∀ i, o = some i → i ≤ u.length) (hc : u.length ≤ c) (hl : u.length ≤ 4194304) (w0 w : World) (cs : List Plot) (hS : Sep w0 w (pOwn b [.slice q u.length c, x] :: cs)) :
    CallsR Tryd.prog 60 #[ptrAt (pb b) 0, placeV o] w fun _ w' => Sep w0 w' (pOwn b [.slice q (cutW u o).length c, x] :: cs) := by
  cases o with
  | none =>
    unfold cutW placeV
    refine enter (l := [ptrAt (pb b) 0, .int .i64 (-1)]) Tryd.func60 rfl Tryd.ntmps60 (by kernel_rfl) rfl ?_
    refine sgo ?_
    (first | refine fp1 (.inl rfl) rfl rfl ?_ | refine fp2 (.inl rfl) rfl rfl rfl ?_ | refine fp3 (.inl rfl) rfl rfl rfl rfl ?_ | refine fp0 (.inr rfl) rfl ?_ | refine fp0 (.inl rfl) rfl ?_ | refine fp1 (.inr rfl) rfl rfl ?_)
    exact hS
  | some i =>
    have hi := ho i rfl
    unfold cutW placeV
    dsimp only
    rw [len_take hi]
    refine enter (l := [ptrAt (pb b) 0, int i]) Tryd.func60 rfl Tryd.ntmps60 (by kernel_rfl) rfl ?_
    refine sgo ?_
    refine wcyes ?_ (ht := decide_eq_true (by omega))
    refine sgo ?_
    refine sst_slice hS 0 fun w1 hS => ?_
    refine sgo ?_
    (first | refine fp1 (.inl rfl) rfl rfl ?_ | refine fp2 (.inl rfl) rfl rfl rfl ?_ | refine fp3 (.inl rfl) rfl rfl rfl rfl ?_ | refine fp0 (.inr rfl) rfl ?_ | refine fp0 (.inl rfl) rfl ?_ | refine fp1 (.inr rfl) rfl rfl ?_)
    exact hS
set_option maxHeartbeats 4000000 in
theorem nInner_ok (b : Nat) (q : Option Addr) (c : Nat) (u : List Nm) (p : Option Addr) (d : Nat) (hc : u.length ≤ c) (hl : u.length ≤ 4194304) (w0 w : World) (cs : List Plot) (hi : Im [] w0 q (strs u)) (hS : Sep w0 w (wkP b q c u p d [] cs)) :
    CallsR Tryd.prog 48 #[ptrAt (pb b) 0] w fun _ w' => ∃ p' d', Sep w0 w' (wkP b q c (innerS u) p' d' (innerP (topR (innerS u))) cs) := by
  unfold wkP at hS ⊢
  have hil := innerS_le u
  have hie : strs (innerS u) = (strs u).take (innerS u).length := by
    unfold innerS
    split
    · rw [strs_dropLast, List.length_dropLast]
    · rw [List.take_of_length_le (by rw [strs_len]; omega)]
  refine enter (l := [ptrAt (pb b) 0]) Tryd.func48 rfl Tryd.ntmps48 (by kernel_rfl) rfl ?_
  refine sgo ?_
  refine wlpure (nTop_ok u q c hl _ (hi.frm hS.frm)) fun w1 hf1 => ?_
  replace hS := hS.grow hf1
  refine sgo ?_
  refine wcutt (X := Unit) (fun _ => [(0, ptrAt (pb b) 0), (2, str (topR (innerS u)))]) (fun _ wr => Sep w0 wr (pOwn b [.slice q (innerS u).length c, .slice p ([] : List Nm).length d] :: pRow 1 p ([] : List Nm).length d (strs []) :: cs)) ?_ ?_
  · by_cases ht : topR u = nColgroup
    · have hne : u ≠ [] := by rintro rfl; revert ht; decide
      have hpos : 0 < u.length := List.length_pos_iff.2 hne
      have e : innerS u = u.dropLast := by unfold innerS; rw [if_pos ht]
      have i1 : (((u.length : Nat) : Int) - 1) = ((u.length - 1 : Nat) : Int) := by omega
      have hIm := hi.take (u.length - 1)
      rw [e] at hie ⊢
      rw [List.length_dropLast] at hie ⊢
      rw [← hie] at hIm
      have htop := fun w' (hf : Frm w0 w') => nTop_ok u.dropLast q c (by rw [List.length_dropLast]; omega) w' (hIm.frm hf)
      rw [List.length_dropLast] at htop
      rw [ht]
      refine sgo ?_
      refine wcdrawt 14 ?_
      refine qgo ?_
      rw [i1]
      refine qgo ?_
      refine QL_nil ?_; intro wd hwd
      replace hS := hS.grow hwd
      refine sst_slice hS 0 fun w2 hS => ?_
      refine sgo ?_
      refine wlpure (htop _ hS.frm) fun w3 hf3 => ?_
      replace hS := hS.grow hf3
      refine sgo ?_
      exact ⟨(), ⟨rfl, rfl, trivial⟩, hS⟩
    · have e : innerS u = u := by unfold innerS; rw [if_neg ht]
      rw [e]
      refine sgo ?_
      refine wcno ?_ (ht := by rw [pkb_and, decide_eq_false (show ¬ topR u = [99, 111, 108, 103, 114, 111, 117, 112] from ht)]; rfl)
      refine sgo ?_
      exact ⟨(), ⟨rfl, rfl, trivial⟩, hS⟩
  · repeat clear hS
    rintro _ w2 ρ hS
    generalize topR (innerS u) = n at *
    unfold innerP
    by_cases h1 : n = nTable
    · subst h1
      rw [if_pos rfl]
      refine sgo ?_
      refine sb1s hS fun x0 w0a hS => ?_
      refine sgo ?_
      refine sapp hS 2 (hS.own 0 rfl).sg (fun p0 d0 w0b hS => ?_) (hb := by decide)
      refine sgo ?_
      refine sst_slice hS 1 fun w0c hS => ?_
      replace hS : Sep w0 w0c (pOwn x0 (strs [nTbody]) :: pOwn b [.slice q (innerS u).length c, .slice p0 ([nTbody] : List Nm).length d0] :: pRow 1 p0 ([nTbody] : List Nm).length d0 (strs [nTbody]) :: cs) := hS
      replace hS := hS.tail
      refine sgo ?_
      refine sb1s hS fun x1 w1a hS => ?_
      refine sgo ?_
      refine sapp hS 2 (hS.own 0 rfl).sg (fun p1 d1 w1b hS => ?_) (hb := by decide)
      refine sgo ?_
      refine sst_slice hS 1 fun w1c hS => ?_
      replace hS : Sep w0 w1c (pOwn x1 (strs [nTr]) :: pOwn b [.slice q (innerS u).length c, .slice p1 ([nTbody, nTr] : List Nm).length d1] :: pRow 1 p1 ([nTbody, nTr] : List Nm).length d1 (strs [nTbody, nTr]) :: cs) := hS
      replace hS := hS.tail
      refine sgo ?_
      refine sb1s hS fun x2 w2a hS => ?_
      refine sgo ?_
      refine sapp hS 2 (hS.own 0 rfl).sg (fun p2 d2 w2b hS => ?_) (hb := by decide)
      refine sgo ?_
      refine sst_slice hS 1 fun w2c hS => ?_
      replace hS : Sep w0 w2c (pOwn x2 (strs [nTd]) :: pOwn b [.slice q (innerS u).length c, .slice p2 ([nTbody, nTr, nTd] : List Nm).length d2] :: pRow 1 p2 ([nTbody, nTr, nTd] : List Nm).length d2 (strs [nTbody, nTr, nTd]) :: cs) := hS
      replace hS := hS.tail
      refine sgo ?_
      (first | refine fp1 (.inl rfl) rfl rfl ?_ | refine fp2 (.inl rfl) rfl rfl rfl ?_ | refine fp3 (.inl rfl) rfl rfl rfl rfl ?_ | refine fp0 (.inr rfl) rfl ?_ | refine fp0 (.inl rfl) rfl ?_ | refine fp1 (.inr rfl) rfl rfl ?_)
      exact ⟨p2, d2, hS⟩
    rw [if_neg h1]
    refine sgo ?_
    refine wcno ?_ (ht := decide_eq_false h1)
    refine sgo ?_
    refine wlpure (nGroup_ok n _) fun w3 hf3 => ?_
    replace hS := hS.grow hf3
    by_cases h2 : isGroup n = true
    · rw [h2, if_pos rfl]
      refine sgo ?_
      refine sb1s hS fun x0 w0a hS => ?_
      refine sgo ?_
      refine sapp hS 2 (hS.own 0 rfl).sg (fun p0 d0 w0b hS => ?_) (hb := by decide)
      refine sgo ?_
      refine sst_slice hS 1 fun w0c hS => ?_
      replace hS : Sep w0 w0c (pOwn x0 (strs [nTr]) :: pOwn b [.slice q (innerS u).length c, .slice p0 ([nTr] : List Nm).length d0] :: pRow 1 p0 ([nTr] : List Nm).length d0 (strs [nTr]) :: cs) := hS
      replace hS := hS.tail
      refine sgo ?_
      refine sb1s hS fun x1 w1a hS => ?_
      refine sgo ?_
      refine sapp hS 2 (hS.own 0 rfl).sg (fun p1 d1 w1b hS => ?_) (hb := by decide)
      refine sgo ?_
      refine sst_slice hS 1 fun w1c hS => ?_
      replace hS : Sep w0 w1c (pOwn x1 (strs [nTd]) :: pOwn b [.slice q (innerS u).length c, .slice p1 ([nTr, nTd] : List Nm).length d1] :: pRow 1 p1 ([nTr, nTd] : List Nm).length d1 (strs [nTr, nTd]) :: cs) := hS
      replace hS := hS.tail
      refine sgo ?_
      (first | refine fp1 (.inl rfl) rfl rfl ?_ | refine fp2 (.inl rfl) rfl rfl rfl ?_ | refine fp3 (.inl rfl) rfl rfl rfl rfl ?_ | refine fp0 (.inr rfl) rfl ?_ | refine fp0 (.inl rfl) rfl ?_ | refine fp1 (.inr rfl) rfl rfl ?_)
      exact ⟨p1, d1, hS⟩
    rw [if_neg h2]
    have h2' : isGroup n = false := by simpa using h2
    rw [h2']
    refine sgo ?_
    by_cases h3 : n = nTr
    · subst h3
      rw [if_pos rfl]
      refine sgo ?_
      refine sb1s hS fun x0 w0a hS => ?_
      refine sgo ?_
      refine sapp hS 2 (hS.own 0 rfl).sg (fun p0 d0 w0b hS => ?_) (hb := by decide)
      refine sgo ?_
      refine sst_slice hS 1 fun w0c hS => ?_
      replace hS : Sep w0 w0c (pOwn x0 (strs [nTd]) :: pOwn b [.slice q (innerS u).length c, .slice p0 ([nTd] : List Nm).length d0] :: pRow 1 p0 ([nTd] : List Nm).length d0 (strs [nTd]) :: cs) := hS
      replace hS := hS.tail
      refine sgo ?_
      (first | refine fp1 (.inl rfl) rfl rfl ?_ | refine fp2 (.inl rfl) rfl rfl rfl ?_ | refine fp3 (.inl rfl) rfl rfl rfl rfl ?_ | refine fp0 (.inr rfl) rfl ?_ | refine fp0 (.inl rfl) rfl ?_ | refine fp1 (.inr rfl) rfl rfl ?_)
      exact ⟨p0, d0, hS⟩
    rw [if_neg h3]
    refine wcno ?_ (ht := decide_eq_false h3)
    refine sgo ?_
    refine wlpure (nList_ok n _) fun w4 hf4 => ?_
    replace hS := hS.grow hf4
    by_cases h4 : isLst n = true
    · rw [h4, if_pos rfl]
      refine sgo ?_
      refine sb1s hS fun x0 w0a hS => ?_
      refine sgo ?_
      refine sapp hS 2 (hS.own 0 rfl).sg (fun p0 d0 w0b hS => ?_) (hb := by decide)
      refine sgo ?_
      refine sst_slice hS 1 fun w0c hS => ?_
      replace hS : Sep w0 w0c (pOwn x0 (strs [nLi]) :: pOwn b [.slice q (innerS u).length c, .slice p0 ([nLi] : List Nm).length d0] :: pRow 1 p0 ([nLi] : List Nm).length d0 (strs [nLi]) :: cs) := hS
      replace hS := hS.tail
      refine sgo ?_
      (first | refine fp1 (.inl rfl) rfl rfl ?_ | refine fp2 (.inl rfl) rfl rfl rfl ?_ | refine fp3 (.inl rfl) rfl rfl rfl rfl ?_ | refine fp0 (.inr rfl) rfl ?_ | refine fp0 (.inl rfl) rfl ?_ | refine fp1 (.inr rfl) rfl rfl ?_)
      exact ⟨p0, d0, hS⟩
    rw [if_neg h4]
    have h4' : isLst n = false := by simpa using h4
    rw [h4']
    refine sgo ?_
    by_cases h5 : n = nDl
    · subst h5
      rw [if_pos rfl]
      refine sgo ?_
      refine sb1s hS fun x0 w0a hS => ?_
      refine sgo ?_
      refine sapp hS 2 (hS.own 0 rfl).sg (fun p0 d0 w0b hS => ?_) (hb := by decide)
      refine sgo ?_
      refine sst_slice hS 1 fun w0c hS => ?_
      replace hS : Sep w0 w0c (pOwn x0 (strs [nDd]) :: pOwn b [.slice q (innerS u).length c, .slice p0 ([nDd] : List Nm).length d0] :: pRow 1 p0 ([nDd] : List Nm).length d0 (strs [nDd]) :: cs) := hS
      replace hS := hS.tail
      refine sgo ?_
      (first | refine fp1 (.inl rfl) rfl rfl ?_ | refine fp2 (.inl rfl) rfl rfl rfl ?_ | refine fp3 (.inl rfl) rfl rfl rfl rfl ?_ | refine fp0 (.inr rfl) rfl ?_ | refine fp0 (.inl rfl) rfl ?_ | refine fp1 (.inr rfl) rfl rfl ?_)
      exact ⟨p0, d0, hS⟩
    rw [if_neg h5]
    refine wcno ?_ (ht := decide_eq_false h5)
    refine sgo ?_
    (first | refine fp1 (.inl rfl) rfl rfl ?_ | refine fp2 (.inl rfl) rfl rfl rfl ?_ | refine fp3 (.inl rfl) rfl rfl rfl rfl ?_ | refine fp0 (.inr rfl) rfl ?_ | refine fp0 (.inl rfl) rfl ?_ | refine fp1 (.inr rfl) rfl rfl ?_)
    exact ⟨p, d, hS⟩
end Go.Proofs.YtmnnffenijjpcaaDoor

/-
  Package nest: the parts of a table, as a map of pairs of functions.
-/
set_option linter.unusedSimpArgs false
set_option linter.unusedVariables false
set_option linter.unnecessarySimpa false
namespace Go.Sv
open Go Go.RowKit
section
variable {P : Program} {w w' w0 : World} {m : Nat} {kv : List (List UInt8 × Value)} {s : List UInt8} {v : Value}
variable {σ : Env} {d : Option Tmp} {ty t t' kt vt : TypeId} {pos : String} {af : Array Edge} {g : Option (Nat × Bool)} {x y z : Operand} {zv : Value} {size bytes : Nat} {cs : List Plot}
theorem y_lookup2 [hu : Und P t (.map kt vt)] [hk : Und P kt .string] [hi : Inf P vt zv size bytes] (hx : evl σ x = .map (some m)) (hy : evl σ y = str s) (hm : MMap w m kv) :
    Y P σ ⟨d, .lookup t x y true, ty, pos, af, g⟩ w (.tuple #[(kv.lookup s).getD zv, .bool (kv.lookup s).isSome]) w := by
  refine Y.val ?_
  obtain ⟨es, cl, h1, h2⟩ := hm
  obtain ⟨r, hr, hr2⟩ := find_kv (s := s) es.toList kv 0 h2
  have hc := MapKept.run_checkKey (P := P) (w := w) (k := str s) hk.ok (by simp [MapKept.IsKey]) es.isEmpty 9999
  have hf := MapKept.run_findKey (P := P) (w := w) (kt := kt) hk.ok hr
  rw [← hr2]
  simp only [execOp, hx, hy, Instr.lookup, Sem.run_bind, underlying, run_program, Result.andThen_ok, hu.ok, Sem.run_pure, MapKept.run_getObj_map h1, hc, hf]
  cases r with
  | none => simp [run_zeroValue (P := P) (t := vt)]
  | some r => simp
def pMap (m : Nat) (kv : List (List UInt8 × Value)) : Plot where
  foot := [m]
  ok w := MMap w m kv
  view := (none, [])
  loc _ _ h hb := by
    obtain ⟨es, cl, h1, h2⟩ := h
    exact ⟨es, cl, (hb m (by simp)).trans h1, h2⟩
  lt _ h x hx := by rw [List.mem_singleton.1 hx]; exact h.lt
  sg _ _ := .inl rfl
end
section
variable {P : Program} {n : Nat} {ds : Ctx} {ops : Array Oper} {Q : Exit → Ctx → Env → World → Prop} {rest : List Oper} {σ : GE} {w w0 : World} {v : Value} {d m : Nat} {ty t kt vt : TypeId} {pos : String} {af : Array Edge} {x y z : Operand} {kv : List (List UInt8 × Value)} {s : List UInt8} {zv : Value} {size bytes : Nat} {cs : List Plot}
theorem smap (hS : Sep w0 w cs) (h : ∀ m w', Sep w0 w' (pMap m [] :: cs) → WL P n ds ops Q rest (real (updG σ d ⟨.map (some m), true⟩)) w') :
    WL P n ds ops Q (⟨some d, .makeMap t none, ty, pos, af, none⟩ :: rest) (real σ) w := by
  refine wl (h w.heap.size (w.alloc (.map #[] 0)) (hS.push (c := pMap w.heap.size []) (frm_alloc _ _) ⟨#[], 0, heap_alloc_new w _, rfl⟩ (by simp [pMap]))) ?_
  refine Y.val ?_
  simp [execOp, Instr.makeMap, newObj]
  rfl
theorem sins [hu : Und P t (.map kt vt)] [hk : Und P kt .string] (hS : Sep w0 w cs) (i : Nat) (hn : kv.lookup s = none) (h : ∀ w', Sep w0 w' (cs.set i (pMap m (kv ++ [(s, v)]))) → WL P n ds ops Q rest (real σ) w') (hc : cs[i]? = some (pMap m kv) := by rfl)
    (hx : evl (real σ) x = .map (some m) := by rfl) (hy : evl (real σ) y = str s := by rfl) (hz : evl (real σ) z = v := by rfl) :
    WL P n ds ops Q (⟨none, .insert t x y z, ty, pos, af, none⟩ :: rest) (real σ) w := by
  obtain ⟨w', h1, h2, h3⟩ := run_mapnew (P := P) (t := t) (v := v) (hS.at (c := pMap m kv) i hc) hn
  refine wl0 (h w' (hS.upd i hc (lm_own h3) h2)) (Y.skip ?_)
  simp only [execOp, hx, hy, hz]
  rw [Sem.run_bind, h1]
  rfl
end
/-- a function's value that answers a name with a list of its own -/
def FvL (P : Program) (w : World) (v : Value) (p : List UInt8 → List (List UInt8)) (strsV : List (List UInt8) → List Value) : Prop :=
  ∃ (f : FuncId) (first cap : List Value), Fnc P f ∧ v = .func (.func f) ⟨first⟩ ⟨cap⟩ ∧ ∀ w', Frm w w' → ∀ n : List UInt8, CallsR P f (first ++ [str n] ++ cap).toArray w' fun u w'' => ∃ q c, u = .slice q (p n).length c ∧ Sep w' w'' [pRow 1 q (p n).length c (strsV (p n))]
theorem FvL.frm {P : Program} {w w' : World} {v : Value} {p : List UInt8 → List (List UInt8)} {sv : List (List UInt8) → List Value} (h : FvL P w v p sv) (hf : Frm w w') : FvL P w' v p sv := by
  obtain ⟨f, first, cap, h1, h2, h3⟩ := h
  exact ⟨f, first, cap, h1, h2, fun w2 hf2 => h3 w2 (hf.trans hf2)⟩
end Go.Sv
namespace Go.Proofs.YtmnnffenijjpcaaDoor
open Go Go.Sv Go.RowKit

/-- what a part is: who it may stand in, and what it puts in -/
abbrev pF (f : FuncId) : Value := .func (.func f) #[] #[]
def partsKV (v : Value) : List (Nm × Value) :=
  [(nCaption, .agg ⟨[v, pF 75]⟩), (nColgroup, .agg ⟨[v, pF 75]⟩), (nThead, .agg ⟨[v, pF 75]⟩), (nTbody, .agg ⟨[v, pF 75]⟩), (nTfoot, .agg ⟨[v, pF 75]⟩),
   (nTd, .agg ⟨[pF 76, pF 77]⟩), (nTh, .agg ⟨[pF 76, pF 77]⟩),
   (nCol, .agg ⟨[pF 78, pF 79]⟩), (nTr, .agg ⟨[pF 80, pF 81]⟩)]
theorem named2_ok (m : Nm) (w0 w : World) (cs : List Plot) (hS : Sep w0 w cs) : CallsR Tryd.prog 52 #[str m] w fun v w' => ∃ b, v = .func (.func 72) #[] #[ptrAt (pb b) 0] ∧ Sep w0 w' (pOwn b [str m] :: cs) := by
  refine enter (l := [str m]) Tryd.func52 rfl Tryd.ntmps52 (by kernel_rfl) rfl ?_
  refine sgo ?_
  refine sbox (v := str m) hS fun b w1 hS => ?_
  refine sgo ?_
  (first | refine fp1 (.inl rfl) rfl rfl ?_ | refine fp2 (.inl rfl) rfl rfl rfl ?_ | refine fp3 (.inl rfl) rfl rfl rfl rfl ?_ | refine fp0 (.inr rfl) rfl ?_ | refine fp0 (.inl rfl) rfl ?_ | refine fp1 (.inr rfl) rfl rfl ?_)
  exact ⟨b, rfl, hS⟩
theorem fvNamed {w : World} {b : Nat} {m : Nm} (ho : Own w b [str m]) : Fv Tryd.prog w (.func (.func 72) #[] #[ptrAt (pb b) 0]) (isNm m) :=
  ⟨_, [], [ptrAt (pb b) 0], inferInstance, rfl, fun w' hf n => named1_ok n m b w' ((ho.im (M := []) (by simp)).frm hf).sg⟩
set_option maxHeartbeats 4000000 in
theorem parts_ok (w0 w : World) (cs : List Plot) (hS : Sep w0 w cs) : CallsR Tryd.prog 62 #[] w fun u w' => ∃ m bN, u = .map (some m) ∧ Sep w0 w' (pMap m (partsKV (.func (.func 72) #[] #[ptrAt (pb bN) 0])) :: pOwn bN [str nTable] :: cs) := by
  refine enter (l := []) Tryd.func62 rfl Tryd.ntmps62 (by kernel_rfl) rfl ?_
  refine sgo ?_
  refine wlcall (named2_ok nTable w0 _ _ hS) ?_
  repeat clear hS
  rintro _ w1 ⟨bN, rfl, hS⟩
  refine sgo ?_
  refine wlbuild (cells := [.func (.func 72) #[] #[ptrAt (pb bN) 0], pF 75]) ?_
  refine sgo ?_
  refine salloc hS fun b2 w2 hS => ?_
  refine sgo ?_
  refine ssta (vs := [.func (.func 72) #[] #[ptrAt (pb bN) 0], pF 75]) hS 0 fun w3 hS => ?_
  refine sgo ?_
  refine wlbuild (cells := [pF 76, pF 77]) ?_
  refine sgo ?_
  refine salloc hS fun b3 w4 hS => ?_
  refine sgo ?_
  refine ssta (vs := [pF 76, pF 77]) hS 0 fun w5 hS => ?_
  replace hS : Sep w0 w5 (pOwn b3 [pF 76, pF 77] :: pOwn b2 [.func (.func 72) #[] #[ptrAt (pb bN) 0], pF 75] :: pOwn bN [str nTable] :: cs) := hS
  refine sgo ?_
  refine smap hS fun m w6 hS => ?_
  refine sgo ?_
  refine sins (s := nCaption) (v := .agg ⟨[.func (.func 72) #[] #[ptrAt (pb bN) 0], pF 75]⟩) hS 0 rfl fun w0a hS => ?_
  refine sgo ?_
  refine sins (s := nColgroup) (v := .agg ⟨[.func (.func 72) #[] #[ptrAt (pb bN) 0], pF 75]⟩) hS 0 rfl fun w1a hS => ?_
  refine sgo ?_
  refine sins (s := nThead) (v := .agg ⟨[.func (.func 72) #[] #[ptrAt (pb bN) 0], pF 75]⟩) hS 0 rfl fun w2a hS => ?_
  refine sgo ?_
  refine sins (s := nTbody) (v := .agg ⟨[.func (.func 72) #[] #[ptrAt (pb bN) 0], pF 75]⟩) hS 0 rfl fun w3a hS => ?_
  refine sgo ?_
  refine sins (s := nTfoot) (v := .agg ⟨[.func (.func 72) #[] #[ptrAt (pb bN) 0], pF 75]⟩) hS 0 rfl fun w4a hS => ?_
  refine sgo ?_
  refine sins (s := nTd) (v := .agg ⟨[pF 76, pF 77]⟩) hS 0 rfl fun w5a hS => ?_
  refine sgo ?_
  refine sins (s := nTh) (v := .agg ⟨[pF 76, pF 77]⟩) hS 0 rfl fun w6a hS => ?_
  refine sgo ?_
  refine wlbuild (cells := [pF 78, pF 79]) ?_
  refine sgo ?_
  refine sins (s := nCol) (v := .agg ⟨[pF 78, pF 79]⟩) hS 0 rfl fun w7a hS => ?_
  refine sgo ?_
  refine wlbuild (cells := [pF 80, pF 81]) ?_
  refine sgo ?_
  refine sins (s := nTr) (v := .agg ⟨[pF 80, pF 81]⟩) hS 0 rfl fun w8a hS => ?_
  refine sgo ?_
  (first | refine fp1 (.inl rfl) rfl rfl ?_ | refine fp2 (.inl rfl) rfl rfl rfl ?_ | refine fp3 (.inl rfl) rfl rfl rfl rfl ?_ | refine fp0 (.inr rfl) rfl ?_ | refine fp0 (.inl rfl) rfl ?_ | refine fp1 (.inr rfl) rfl rfl ?_)
  exact ⟨m, bN, rfl, (hS.drop 1 rfl).drop 1 rfl⟩
end Go.Proofs.YtmnnffenijjpcaaDoor

/-
  Package nest: what the parts' functions answer.
-/
set_option linter.unusedSimpArgs false
set_option linter.unusedVariables false
set_option linter.unnecessarySimpa false
namespace Go.Proofs.YtmnnffenijjpcaaDoor
open Go Go.Sv Go.RowKit

theorem sepRow1 {w w' : World} {b : Nat} {x : Nm} (hS : Sep w w' [pOwn b [str x]]) : Sep w w' [pRow 1 (pb b) ([x] : List Nm).length 1 (strs [x])] := hS.asRow (size := 1) (n := 1) rfl (by decide)
theorem p1_ok (n : Nm) (w : World) : CallsR Tryd.prog 75 #[str n] w fun u w' => ∃ q c, u = .slice q ([] : List Nm).length c ∧ Sep w w' [pRow 1 q ([] : List Nm).length c (strs [])] := by
  refine enter (l := [str n]) Tryd.func75 rfl Tryd.ntmps75 (by kernel_rfl) rfl ?_
  refine sgo ?_
  (first | refine fp1 (.inl rfl) rfl rfl ?_ | refine fp2 (.inl rfl) rfl rfl rfl ?_ | refine fp3 (.inl rfl) rfl rfl rfl rfl ?_ | refine fp0 (.inr rfl) rfl ?_ | refine fp0 (.inl rfl) rfl ?_ | refine fp1 (.inr rfl) rfl rfl ?_)
  exact ⟨none, 0, rfl, (Sep.start w).nilRow 1⟩
theorem p2_ok (n : Nm) (w : World) : PureC Tryd.prog 76 #[str n] w (.bool (decide (n = nTr) || isGroup n || decide (n = nTable))) := by
  refine enter (l := [str n]) Tryd.func76 rfl Tryd.ntmps76 (by kernel_rfl) rfl ?_
  refine sgo ?_
  refine wlcallgp (vals := [str n]) (fun _ => nGroup_ok n _) fun w1 hf1 => ?_
  refine sgo ?_
  (first | refine fp1 (.inl rfl) rfl rfl ?_ | refine fp2 (.inl rfl) rfl rfl rfl ?_ | refine fp3 (.inl rfl) rfl rfl rfl rfl ?_ | refine fp0 (.inr rfl) rfl ?_ | refine fp0 (.inl rfl) rfl ?_ | refine fp1 (.inr rfl) rfl rfl ?_); refine ⟨?_, by (first | exact Frm.refl _ | assumption | exact Go.Sv.Sep.frm (by assumption) | (refine Frm.trans ?_ (by assumption); first | exact Frm.refl _ | assumption))⟩; (try simp only [realB, rv_true, Nat.reduceBEq, cond_true, cond_false, entG, real_lif, updGL])
  rw [pkb_or, pkb_or]
  rfl
theorem p3_ok (n : Nm) (w : World) : CallsR Tryd.prog 77 #[str n] w fun u w' => ∃ q c, u = .slice q (if n = nTr then [] else if n = nTable then [nTbody, nTr] else [nTr] : List Nm).length c ∧ Sep w w' [pRow 1 q (if n = nTr then [] else if n = nTable then [nTbody, nTr] else [nTr] : List Nm).length c (strs (if n = nTr then [] else if n = nTable then [nTbody, nTr] else [nTr]))] := by
  have hS := Sep.start w
  refine enter (l := [str n]) Tryd.func77 rfl Tryd.ntmps77 (by kernel_rfl) rfl ?_
  by_cases h1 : n = nTr
  · subst h1
    rw [if_pos rfl]
    refine sgo ?_
    (first | refine fp1 (.inl rfl) rfl rfl ?_ | refine fp2 (.inl rfl) rfl rfl rfl ?_ | refine fp3 (.inl rfl) rfl rfl rfl rfl ?_ | refine fp0 (.inr rfl) rfl ?_ | refine fp0 (.inl rfl) rfl ?_ | refine fp1 (.inr rfl) rfl rfl ?_)
    exact ⟨none, 0, rfl, hS.nilRow 1⟩
  rw [if_neg h1]
  by_cases h2 : n = nTable
  · subst h2
    rw [if_pos rfl]
    refine sgo ?_
    refine wlbsn (vs := strs [nTbody, nTr]) 2 (fun b4 w4 hb4 o4 hf4 => ?_) (h1 := by intro v hv; obtain ⟨x, _, rfl⟩ := List.mem_map.1 hv; rfl)
    replace hS := hS.push (c := pOwn b4 (strs [nTbody, nTr])) hf4 o4 (by simpa [pOwn] using hb4)
    refine sgo ?_
    (first | refine fp1 (.inl rfl) rfl rfl ?_ | refine fp2 (.inl rfl) rfl rfl rfl ?_ | refine fp3 (.inl rfl) rfl rfl rfl rfl ?_ | refine fp0 (.inr rfl) rfl ?_ | refine fp0 (.inl rfl) rfl ?_ | refine fp1 (.inr rfl) rfl rfl ?_)
    exact ⟨pb b4, 2, rfl, hS.asRow (size := 1) (n := 2) rfl (by decide)⟩
  rw [if_neg h2]
  refine sgo ?_
  refine wcno ?_ (ht := decide_eq_false h1)
  refine sgo ?_
  refine wcno ?_ (ht := decide_eq_false h2)
  refine sgo ?_
  refine sb1s hS fun b4 w4 hS => ?_
  refine sgo ?_
  (first | refine fp1 (.inl rfl) rfl rfl ?_ | refine fp2 (.inl rfl) rfl rfl rfl ?_ | refine fp3 (.inl rfl) rfl rfl rfl rfl ?_ | refine fp0 (.inr rfl) rfl ?_ | refine fp0 (.inl rfl) rfl ?_ | refine fp1 (.inr rfl) rfl rfl ?_)
  exact ⟨pb b4, 1, rfl, sepRow1 hS⟩
theorem p4_ok (n : Nm) (w : World) : PureC Tryd.prog 78 #[str n] w (.bool (decide (n = nColgroup) || decide (n = nTable))) := by
  refine enter (l := [str n]) Tryd.func78 rfl Tryd.ntmps78 (by kernel_rfl) rfl ?_
  refine sgo ?_
  (first | refine fp1 (.inl rfl) rfl rfl ?_ | refine fp2 (.inl rfl) rfl rfl rfl ?_ | refine fp3 (.inl rfl) rfl rfl rfl rfl ?_ | refine fp0 (.inr rfl) rfl ?_ | refine fp0 (.inl rfl) rfl ?_ | refine fp1 (.inr rfl) rfl rfl ?_); refine ⟨?_, by (first | exact Frm.refl _ | assumption | exact Go.Sv.Sep.frm (by assumption) | (refine Frm.trans ?_ (by assumption); first | exact Frm.refl _ | assumption))⟩; (try simp only [realB, rv_true, Nat.reduceBEq, cond_true, cond_false, entG, real_lif, updGL])
  rw [pkb_or]
  rfl
theorem p5_ok (n : Nm) (w : World) : CallsR Tryd.prog 79 #[str n] w fun u w' => ∃ q c, u = .slice q (if n = nTable then [nColgroup] else [] : List Nm).length c ∧ Sep w w' [pRow 1 q (if n = nTable then [nColgroup] else [] : List Nm).length c (strs (if n = nTable then [nColgroup] else []))] := by
  have hS := Sep.start w
  refine enter (l := [str n]) Tryd.func79 rfl Tryd.ntmps79 (by kernel_rfl) rfl ?_
  by_cases h2 : n = nTable
  · subst h2
    rw [if_pos rfl]
    refine sgo ?_
    refine sb1s hS fun b4 w4 hS => ?_
    refine sgo ?_
    (first | refine fp1 (.inl rfl) rfl rfl ?_ | refine fp2 (.inl rfl) rfl rfl rfl ?_ | refine fp3 (.inl rfl) rfl rfl rfl rfl ?_ | refine fp0 (.inr rfl) rfl ?_ | refine fp0 (.inl rfl) rfl ?_ | refine fp1 (.inr rfl) rfl rfl ?_)
    exact ⟨pb b4, 1, rfl, sepRow1 hS⟩
  rw [if_neg h2]
  refine sgo ?_
  refine wcno ?_ (ht := decide_eq_false h2)
  refine sgo ?_
  (first | refine fp1 (.inl rfl) rfl rfl ?_ | refine fp2 (.inl rfl) rfl rfl rfl ?_ | refine fp3 (.inl rfl) rfl rfl rfl rfl ?_ | refine fp0 (.inr rfl) rfl ?_ | refine fp0 (.inl rfl) rfl ?_ | refine fp1 (.inr rfl) rfl rfl ?_)
  exact ⟨none, 0, rfl, hS.nilRow 1⟩
theorem p6_ok (n : Nm) (w : World) : PureC Tryd.prog 80 #[str n] w (.bool (isGroup n || decide (n = nTable))) := by
  refine enter (l := [str n]) Tryd.func80 rfl Tryd.ntmps80 (by kernel_rfl) rfl ?_
  refine sgo ?_
  refine wlpure (nGroup_ok n _) fun w1 hf1 => ?_
  refine sgo ?_
  (first | refine fp1 (.inl rfl) rfl rfl ?_ | refine fp2 (.inl rfl) rfl rfl rfl ?_ | refine fp3 (.inl rfl) rfl rfl rfl rfl ?_ | refine fp0 (.inr rfl) rfl ?_ | refine fp0 (.inl rfl) rfl ?_ | refine fp1 (.inr rfl) rfl rfl ?_); refine ⟨?_, by (first | exact Frm.refl _ | assumption | exact Go.Sv.Sep.frm (by assumption) | (refine Frm.trans ?_ (by assumption); first | exact Frm.refl _ | assumption))⟩; (try simp only [realB, rv_true, Nat.reduceBEq, cond_true, cond_false, entG, real_lif, updGL])
  rw [pkb_or]
  rfl
theorem p7_ok (n : Nm) (w : World) : CallsR Tryd.prog 81 #[str n] w fun u w' => ∃ q c, u = .slice q (if n = nTable then [nTbody] else [] : List Nm).length c ∧ Sep w w' [pRow 1 q (if n = nTable then [nTbody] else [] : List Nm).length c (strs (if n = nTable then [nTbody] else []))] := by
  have hS := Sep.start w
  refine enter (l := [str n]) Tryd.func81 rfl Tryd.ntmps81 (by kernel_rfl) rfl ?_
  by_cases h2 : n = nTable
  · subst h2
    rw [if_pos rfl]
    refine sgo ?_
    refine sb1s hS fun b4 w4 hS => ?_
    refine sgo ?_
    (first | refine fp1 (.inl rfl) rfl rfl ?_ | refine fp2 (.inl rfl) rfl rfl rfl ?_ | refine fp3 (.inl rfl) rfl rfl rfl rfl ?_ | refine fp0 (.inr rfl) rfl ?_ | refine fp0 (.inl rfl) rfl ?_ | refine fp1 (.inr rfl) rfl rfl ?_)
    exact ⟨pb b4, 1, rfl, sepRow1 hS⟩
  rw [if_neg h2]
  refine sgo ?_
  refine wcno ?_ (ht := decide_eq_false h2)
  refine sgo ?_
  (first | refine fp1 (.inl rfl) rfl rfl ?_ | refine fp2 (.inl rfl) rfl rfl rfl ?_ | refine fp3 (.inl rfl) rfl rfl rfl rfl ?_ | refine fp0 (.inr rfl) rfl ?_ | refine fp0 (.inl rfl) rfl ?_ | refine fp1 (.inr rfl) rfl rfl ?_)
  exact ⟨none, 0, rfl, hS.nilRow 1⟩
/-- what the map holds for a name -/
def PartV (w : World) (name : Nm) (v1 v2 : Value) : Prop := Fv Tryd.prog w v1 (stands name) ∧ FvL Tryd.prog w v2 (partPut name) strs
theorem fvp {f : FuncId} [hf : Fnc Tryd.prog f] {p q : Nm → Bool} (w : World) (h : ∀ n w', PureC Tryd.prog f #[str n] w' (.bool (p n))) (he : ∀ n, p n = q n) : Fv Tryd.prog w (pF f) q :=
  ⟨f, [], [], hf, rfl, fun w' _ n => by rw [← he n]; exact h n w'⟩
theorem fvl {f : FuncId} [hf : Fnc Tryd.prog f] {p q : Nm → List Nm} (w : World) (h : ∀ n w', CallsR Tryd.prog f #[str n] w' fun u w'' => ∃ q c, u = .slice q (p n).length c ∧ Sep w' w'' [pRow 1 q (p n).length c (strs (p n))]) (he : ∀ n, p n = q n) : FvL Tryd.prog w (pF f) q strs :=
  ⟨f, [], [], hf, rfl, fun w' _ n => by rw [← he n]; exact h n w'⟩
theorem fv_ext {w : World} {v : Value} {p q : Nm → Bool} (h : Fv Tryd.prog w v p) (he : ∀ n, p n = q n) : Fv Tryd.prog w v q := by
  obtain ⟨f, first, cap, h1, h2, h3⟩ := h
  exact ⟨f, first, cap, h1, h2, fun w' hf n => by rw [← he n]; exact h3 w' hf n⟩
theorem partV_T {w : World} {v : Value} (hv : Fv Tryd.prog w v (isNm nTable)) {name : Nm} (h1 : ¬ (name = nTd ∨ name = nTh)) (h2 : name ≠ nCol) (h3 : name ≠ nTr) : PartV w name (v) (pF 75) := by
  refine ⟨fv_ext hv fun n => ?_, fvl (p := fun _ => []) w p1_ok fun n => ?_⟩
  · unfold stands isNm; rw [if_neg h1, if_neg h2, if_neg h3]
  · unfold partPut; rw [if_neg h1, if_neg h2, if_neg h3]
theorem partV_C (w : World) {name : Nm} (h1 : name = nTd ∨ name = nTh) : PartV w name (pF 76) (pF 77) := by
  refine ⟨fvp (p := fun n => decide (n = nTr) || isGroup n || decide (n = nTable)) w p2_ok fun n => ?_, fvl (p := fun n => if n = nTr then [] else if n = nTable then [nTbody, nTr] else [nTr]) w p3_ok fun n => ?_⟩
  · unfold stands; rw [if_pos h1]
  · unfold partPut; rw [if_pos h1]
theorem partV_L (w : World) : PartV w nCol (pF 78) (pF 79) := by
  refine ⟨fvp (p := fun n => decide (n = nColgroup) || decide (n = nTable)) w p4_ok fun n => ?_, fvl (p := fun n => if n = nTable then [nColgroup] else []) w p5_ok fun n => ?_⟩
  · unfold stands; rw [if_neg (by decide), if_pos rfl]
  · unfold partPut; rw [if_neg (show ¬ (nCol = nTd ∨ nCol = nTh) by decide), if_pos (rfl : nCol = nCol)]
theorem partV_R (w : World) : PartV w nTr (pF 80) (pF 81) := by
  refine ⟨fvp (p := fun n => isGroup n || decide (n = nTable)) w p6_ok fun n => ?_, fvl (p := fun n => if n = nTable then [nTbody] else []) w p7_ok fun n => ?_⟩
  · unfold stands; rw [if_neg (by decide), if_neg (by decide), if_pos rfl]
  · unfold partPut; rw [if_neg (show ¬ (nTr = nTd ∨ nTr = nTh) by decide), if_neg (show ¬ nTr = nCol by decide), if_pos (rfl : nTr = nTr)]
theorem parts_yes (v : Value) {name : Nm} (h : isPart name = true) : ∃ v1 v2, (partsKV v).lookup name = some (.agg ⟨[v1, v2]⟩) ∧ ∀ w, Fv Tryd.prog w v (isNm nTable) → PartV w name v1 v2 := by
  simp only [isPart, isGroup, Bool.or_eq_true, decide_eq_true_eq] at h
  rcases h with ((((((rfl | rfl) | ((rfl | rfl) | rfl)) | rfl) | rfl) | rfl) | rfl)
  · exact ⟨_, _, rfl, fun w hv => partV_T hv (by decide) (by decide) (by decide)⟩
  · exact ⟨_, _, rfl, fun w hv => partV_T hv (by decide) (by decide) (by decide)⟩
  · exact ⟨_, _, rfl, fun w hv => partV_T hv (by decide) (by decide) (by decide)⟩
  · exact ⟨_, _, rfl, fun w hv => partV_T hv (by decide) (by decide) (by decide)⟩
  · exact ⟨_, _, rfl, fun w hv => partV_T hv (by decide) (by decide) (by decide)⟩
  · exact ⟨_, _, rfl, fun w _ => partV_C w (.inl rfl)⟩
  · exact ⟨_, _, rfl, fun w _ => partV_C w (.inr rfl)⟩
  · exact ⟨_, _, rfl, fun w _ => partV_L w⟩
  · exact ⟨_, _, rfl, fun w _ => partV_R w⟩
theorem parts_no {v : Value} {name : Nm} (h : isPart name = false) : (partsKV v).lookup name = none := by
  simp only [isPart, isGroup, Bool.or_eq_false_iff, decide_eq_false_iff_not] at h
  obtain ⟨⟨⟨⟨⟨⟨h1, h2⟩, ⟨h3, h4⟩, h5⟩, h6⟩, h7⟩, h8⟩, h9⟩ := h
  have e : ∀ {a b : Nm}, ¬ a = b → (a == b) = false := fun h => by simpa using h
  simp only [partsKV, List.lookup, e h1, e h2, e h3, e h4, e h5, e h6, e h7, e h8, e h9]
theorem Fv.at {w : World} {f : FuncId} {first cap : List Value} {p : Nm → Bool} (h : Fv Tryd.prog w (.func (.func f) ⟨first⟩ ⟨cap⟩) p) (n : Nm) : PureC Tryd.prog f (first ++ [str n] ++ cap).toArray w (.bool (p n)) := by
  obtain ⟨f2, a2, c2, _, he, h3⟩ := h
  injection he with e1 e2 e3
  injection e1 with e1
  injection e2 with e2
  injection e3 with e3
  subst e1 e2 e3
  exact h3 w (Frm.refl w) n
theorem FvL.at {w : World} {f : FuncId} {first cap : List Value} {p : Nm → List Nm} (h : FvL Tryd.prog w (.func (.func f) ⟨first⟩ ⟨cap⟩) p strs) (n : Nm) : CallsR Tryd.prog f (first ++ [str n] ++ cap).toArray w fun u w' => ∃ q c, u = .slice q (p n).length c ∧ Sep w w' [pRow 1 q (p n).length c (strs (p n))] := by
  obtain ⟨f2, a2, c2, _, he, h3⟩ := h
  injection he with e1 e2 e3
  injection e1 with e1
  injection e2 with e2
  injection e3 with e3
  subst e1 e2 e3
  exact h3 w (Frm.refl w) n
end Go.Proofs.YtmnnffenijjpcaaDoor

/-
  Regions that draw their order, whatever they make: by a plan that says of each operation what it yields, makes and takes.
-/
set_option linter.unusedSimpArgs false
set_option linter.unusedVariables false
set_option linter.unnecessarySimpa false
namespace Go.Sv
open Go Go.RowKit

theorem Sep.perm {w0 w : World} {cs ds : List Plot} (h : Sep w0 w cs) (hp : cs.Perm ds) : Sep w0 w ds :=
  ⟨h.frm, fun c hc => h.ok c (hp.mem_iff.2 hc), fun c hc => h.low c (hp.mem_iff.2 hc), hp.pairwise h.apart fun h x hx hx' => h x hx' hx⟩
theorem filter_insert {α : Type} [DecidableEq α] {k : α} {q : α → Bool} (hq : q k = false) : ∀ {l : List α}, l.Nodup → k ∈ l → (l.filter fun j => decide (j = k) || q j).Perm (k :: l.filter q)
  | [], _, h => by cases h
  | x :: l, hn, hm => by
    rw [List.nodup_cons] at hn
    by_cases e : x = k
    · subst e
      have hrest : l.filter (fun j => decide (j = x) || q j) = l.filter q := by
        refine List.filter_congr fun j hj => ?_
        have : j ≠ x := fun h => hn.1 (h ▸ hj)
        simp [this]
      simp only [List.filter_cons, decide_true, Bool.true_or, if_true, hq, Bool.false_eq_true, if_false, hrest]
      exact List.Perm.refl _
    · have hm' : k ∈ l := by
        rcases List.mem_cons.1 hm with h | h
        · exact absurd h.symm e
        · exact h
      have ih := filter_insert hq hn.2 hm'
      simp only [List.filter_cons, decide_eq_false e, Bool.false_or]
      cases q x with
      | false => simpa using ih
      | true => simpa using (ih.cons x).trans (List.Perm.swap k x _)

structure Plan (D : Type) where
  val : Nat → D → Value
  pl : Nat → D → List Plot
  con : Nat → Option Nat
  fact : Nat → (Nat → D) → Prop
section
variable {D : Type}
def setD (a : Nat → D) (k : Nat) (d : D) : Nat → D := fun j => if j = k then d else a j
theorem setD_same (a : Nat → D) (k : Nat) (d : D) : setD a k d k = d := if_pos rfl
theorem setD_ne (a : Nat → D) {k j : Nat} (d : D) (h : j ≠ k) : setD a k d j = a j := if_neg h
def Plan.live (p : Plan D) (L : Nat → Bool) (j : Nat) : Bool := L j && (match p.con j with | some c => !L c | none => true)
def Plan.mem (p : Plan D) (n : Nat) (L : Nat → Bool) (a : Nat → D) : List Plot := ((List.range n).filter (p.live L)).flatMap fun j => p.pl j (a j)
/-- what operation k takes -/
def Plan.takes (p : Plan D) (n k : Nat) (a : Nat → D) : List Plot := ((List.range n).filter fun j => decide (p.con j = some k)).flatMap fun j => p.pl j (a j)
def Plan.S (p : Plan D) (w0 : World) (cs : List Plot) (σ0 : Env) (ops : List Oper) (L : Nat → Bool) (σ : Env) (w : World) : Prop :=
  (∀ s, (∀ (k : Nat) (o : Oper), ops[k]? = some o → o.dst ≠ some s) → σ s = σ0 s) ∧
  ∃ a : Nat → D, (∀ (k : Nat) (o : Oper), ops[k]? = some o → L k = true → (∀ d, o.dst = some d → σ d = p.val k (a k)) ∧ p.fact k a) ∧ Sep w0 w (p.mem ops.length L a ++ cs)
/-- how operation k goes, by the plan -/
def Plan.Rule (p : Plan D) (P : Program) (w0 : World) (cs : List Plot) (σ0 : Env) (ops : List Oper) (k : Nat) (o : Oper) : Prop :=
  ∀ (a : Nat → D) (σ : Env) (w : World) (rest : List Plot), (∀ s, (∀ (k : Nat) (o : Oper), ops[k]? = some o → o.dst ≠ some s) → σ s = σ0 s) →
    (∀ (j : Nat) (oj : Oper), bindsOn o j = true → ops[j]? = some oj → (∀ d, oj.dst = some d → σ d = p.val j (a j)) ∧ p.fact j a) → Sep w0 w (p.takes ops.length k a ++ (cs ++ rest)) →
    (Region.wanted o (yl ops.toArray σ) = true ∧ comes P (fun v w' => ∃ d, v = p.val k d ∧ p.fact k (setD a k d) ∧ Sep w0 w' (p.pl k d ++ (cs ++ rest))) ((execOp (evl σ) o).run P w)) ∨
    (Region.wanted o (yl ops.toArray σ) = false ∧ ∃ d, undef = p.val k d ∧ p.fact k (setD a k d) ∧ Sep w0 w (p.pl k d ++ (cs ++ rest)))
def Plan.Rules (p : Plan D) (P : Program) (w0 : World) (cs : List Plot) (σ0 : Env) (ops : List Oper) : Nat → List Oper → Prop
  | _, [] => True
  | k, o :: l => p.Rule P w0 cs σ0 ops k o ∧ p.Rules P w0 cs σ0 ops (k + 1) l
/-- the plan's book-keeping: whoever takes waits; targets differ -/
def planB (con : Nat → Option Nat) (ops : List Oper) : Bool :=
  (List.range ops.length).all fun j => (match con j with
    | some c => decide (c < ops.length) && (match ops[c]? with | some oc => bindsOn oc j | none => false)
    | none => true) && (List.range ops.length).all fun i => decide (i = j) || (match ops[i]?, ops[j]? with
      | some oi, some oj => (match oi.dst with | some d => decide (oj.dst ≠ some d) | none => true)
      | _, _ => true)
theorem comes_mono {P : Program} {T T' : Value → World → Prop} (h : ∀ v w, T v w → T' v w) : ∀ {r : Result Next}, comes P T r → comes P T' r := by
  intro r hr
  unfold comes at *
  split at hr
  · exact h _ _ hr
  · exact h _ _ hr
  · exact Calls.mono hr fun e w ⟨v, he, hv⟩ => ⟨v, he, h _ _ hv⟩
  · exact hr.elim
end
end Go.Sv
namespace Go.Sv
open Go Go.RowKit
theorem frameOf {σ : Env} (sl : List (Nat × Value)) (h : Has σ sl) : σ = real (updGL (lif σ) sl) := by rw [← real_updL, updL_has h]
theorem notDst {ops : List Oper} {s : Nat} (h : (ops.all fun o => decide (o.dst ≠ some s)) = true) : ∀ (k : Nat) (o : Oper), ops[k]? = some o → o.dst ≠ some s := fun k o hk =>
  of_decide_eq_true (List.all_eq_true.1 h o (List.mem_of_getElem? hk))
section
variable {D : Type} {P : Program} {w0 w w' : World} {cs rest : List Plot} {σ : Env} {d : Option Tmp} {op : Op} {ty : TypeId} {pos : String} {af : Array Edge} {v : Value} {k : Nat} {ops : Array Oper} {T : Value → World → Prop}
/-- an operation of a plan, that has no guard -/
theorem rule_y {B : Prop} {o : Oper} (hy : Y P σ o w v w') (hT : T v w') (hg : o.guard = none := by rfl) :
    (Region.wanted o (yl ops σ) = true ∧ comes P T ((execOp (evl σ) o).run P w)) ∨ B := .inl ⟨by simp [Region.wanted, hg], comes_of_Y hy hT⟩
theorem rule_call {B : Prop} {f : FuncId} [hf : Fnc P f] {args : List Operand} {ats : Array TypeId} {vals : List Value} {R : Value → World → Prop} (hc : CallsR P f vals.toArray w R) (hT : ∀ v w', R v w' → T v w') (ha : args.map (evl σ) = vals) :
    (Region.wanted (⟨d, .call ⟨.value (.func f), args.toArray, ats⟩, ty, pos, af, none⟩ : Oper) (yl ops σ) = true ∧ comes P T ((execOp (evl σ) ⟨d, .call ⟨.value (.func f), args.toArray, ats⟩, ty, pos, af, none⟩).run P w)) ∨ B := by
  refine .inl ⟨by simp [Region.wanted], ?_⟩
  rw [run_call_func]
  have : (args.toArray.map (evl σ)) = vals.toArray := by rw [← ha]; simp
  rw [this]
  exact Calls.mono hc fun e w'' ⟨v, he, hv⟩ => ⟨v, he, hT v w'' hv⟩
variable {t t' e e' : TypeId} {x y : Operand} {zv u : Value} {size bytes i m n c c' : Nat} {p q : Option Addr} {xs news vs : List Value}
/-- a slice written out, of one struct: its piece -/
theorem y_bs1 [hu : Und P t (.slice e)] [hi : Inf P e zv size bytes] (hS : Sep w0 w cs) (hx : evl σ x = .agg ⟨vs⟩) (hv : vs.length = size) (hz : zv.cells.size = size) (hsz : 0 < size) (hm : size ≤ 16777216) :
    ∃ b w', Y P σ ⟨d, .buildSlice t 1 #[(0, x)], ty, pos, af, none⟩ w (.slice (pb b) 1 1) w' ∧ Sep w0 w' (pOwn b vs :: cs) := by
  refine ⟨w.heap.size, w.alloc (.cells ⟨vs⟩ e), Y.val ?_, hS.push (frm_alloc _ _) (own_alloc _ _ _) (by simp [pOwn])⟩
  simp only [execOp, List.map_toArray, List.map_cons, List.map_nil, hx, Sem.run_bind]
  rw [run_buildSlice1 (P := P) (t := t) (e := e) hz (by simpa [Value.cells] using hv) hsz hm]
  rfl
/-- append to the i-th piece -/
theorem y_app [hu : Und P t (.slice e)] [hu' : Und P t' (.slice e')] [hi : Inf P e zv size bytes] (hS : Sep w0 w cs) (i : Nat) (hs : Sg w q news) (hc : cs[i]? = some (pRow size p m c xs)) (hx : evl σ x = .slice p m c) (hy : evl σ y = .slice q n c') (hl : news.length = n * size)
    (h1 : ∀ u ∈ news, u.oneCell' = true) (hz : zv.cells.size = size) (hsz : 0 < size) (hb : (m + n) * bytes ≤ 140737488355328 ∧ m + n ≤ 9223372036854775807) :
    ∃ p' c2 w', Y P σ ⟨d, .call ⟨.builtin .append, #[x, y], #[t, t']⟩, ty, pos, af, none⟩ w (.slice p' (m + n) c2) w' ∧ Sep w0 w' (cs.set i (pRow size p' (m + n) c2 (xs ++ news))) := by
  obtain ⟨p', c2, w', h2, h3, h4⟩ := run_append_row (P := P) (t := t) (tx := t') (ty := ty) (e := e) hz hsz (hS.row i hc) (src_of_sg (tx := t') (c := c') hs hl h1) hb.2 hb.1
  exact ⟨p', c2, w', run_append_op hx hy h2, hS.upd i hc h4 h3⟩
end
end Go.Sv

/-
  Package event: walk.
-/
set_option linter.unusedSimpArgs false
set_option linter.unusedVariables false
set_option linter.unnecessarySimpa false
namespace Go.Proofs.YtmnnffenijjpcaaDoor
open Go Go.Sv Go.RowKit

/-- the events alone -/
def evs (ms : List EvM) : List Ev := ms.map EvM.e
theorem evs_len (ms : List EvM) : (evs ms).length = ms.length := by simp [evs]
/-- how the first i nest -/
def lkI (ms : List EvM) (i : Nat) : Lk := lkR ((evs ms).take i)
end Go.Proofs.YtmnnffenijjpcaaDoor

/-
  Package link: paths without dot segments; the twins.
-/
set_option linter.unusedSimpArgs false
set_option linter.unusedVariables false
set_option linter.unnecessarySimpa false
namespace Go.Sv
open Go Go.RowKit
section
variable {P : Program} {σ : Env} {w : World} {d : Option Tmp} {ty t t' : TypeId} {pos : String} {af : Array Edge} {g : Option (Nat × Bool)} {x y : Operand} {a b : Int} {ats : Array TypeId}
end
end Go.Sv
namespace Go.Proofs.YtmnnffenijjpcaaDoor
open Go Go.Sv Go.RowKit

/-- how many bytes stand ahead of the first of some -/
def upR (l sm : List UInt8) : Nat := (l.takeWhile fun c => decide (c ∉ sm)).length
/-- the last place below n where c stands -/
def lastF (l : List UInt8) (c : Nat) : Nat → Int
  | 0 => -1
  | n + 1 => if at0 l n = c then n else lastF l c n
def lastR (l : List UInt8) (c : Nat) : Int := lastF l c l.length
def parR (l : List UInt8) : List UInt8 := l.take (max (lastR l 47) 0).toNat













def pfx (p l : List UInt8) : Bool := p.isPrefixOf l
/-- a segment's end -/
def segN (l : List UInt8) : Nat := 1 + upR (l.drop 1) [47]
def dotStep (l out : List UInt8) : List UInt8 × List UInt8 :=
  if pfx [46, 46, 47] l then (l.drop 3, out)
  else if pfx [46, 47] l then (l.drop 2, out)
  else if pfx [47, 46, 47] l then (l.drop 2, out)
  else if l = [47, 46] then ([47], out)
  else if pfx [47, 46, 46, 47] l then (l.drop 3, parR out)
  else if l = [47, 46, 46] then ([47], parR out)
  else if l = [46] ∨ l = [46, 46] then ([], out)
  else (l.drop (segN l), out ++ l.take (segN l))
def dotsF : Nat → List UInt8 → List UInt8 → List UInt8
  | 0, _, out => out
  | f + 1, l, out => if l = [] then out else dotsF f (dotStep l out).1 (dotStep l out).2
def dotsL (l out : List UInt8) : List UInt8 := dotsF l.length l out
end Go.Proofs.YtmnnffenijjpcaaDoor

/-
  Package event: Nested, Open, Depth.
-/
set_option linter.unusedSimpArgs false
set_option linter.unusedVariables false
set_option linter.unnecessarySimpa false
namespace Go.Proofs.YtmnnffenijjpcaaDoor
open Go Go.Sv Go.RowKit


















































def mostR (m d : Nat) (k : Int) : Nat := if k = 1 ∨ k = 3 then max m (d + 1) else m




























end Go.Proofs.YtmnnffenijjpcaaDoor

/-
  Package event: Close; slices.Backward.
-/
set_option linter.unusedSimpArgs false
set_option linter.unusedVariables false
set_option linter.unnecessarySimpa false
namespace Go.Proofs.YtmnnffenijjpcaaDoor
open Go Go.Sv Go.RowKit












































def closeE (n : List UInt8) : Ev := ⟨2, n, [], []⟩
/-- the events that close, in memory -/
def closeM (n : List UInt8) : EvM := ⟨closeE n, none, 0⟩
/-- what Open tells -/
def openS (k : Lk) : List (List UInt8) := if k.err = 0 then k.stack else []
end Go.Proofs.YtmnnffenijjpcaaDoor

/-
  Structs of texts, numbers and bools compared.
-/
set_option linter.unusedSimpArgs false
set_option linter.unusedVariables false
set_option linter.unnecessarySimpa false
namespace Go.Sv
open Go Go.RowKit
def plainB (P : Program) : List Field → Nat → List TypeDesc → Bool
  | [], _, [] => true
  | f :: fs, k, d :: ds => (f.name != "_") && (f.offset == k) && (match P.underlying f.type, d with
    | some .string, .string => true
    | some .bool, .bool => true
    | some (.int a), .int b => kEq a b
    | _, _ => false) && plainB P fs (k + 1) ds
  | _, _, _ => false
/-- a struct whose fields are one cell each: texts, bools, numbers -/
class PlainS (P : Program) (t : TypeId) (ds : outParam (List TypeDesc)) : Prop where
  ok : ∃ fs, P.underlying t = some (.struct fs) ∧ plainB P fs.toList 0 ds = true ∧ P.stoodInHeld t = false ∧ P.eqGuardType P.depth t = false
/-- are two structs the same? -/
def eqL : List TypeDesc → List Value → List Value → Option Bool
  | [], [], [] => some true
  | .string :: ds, .string ⟨⟨a⟩⟩ :: xs, .string ⟨⟨b⟩⟩ :: ys => match eqL ds xs ys with | some r => some (decide (a = b) && r) | none => none
  | .bool :: ds, .bool a :: xs, .bool b :: ys => match eqL ds xs ys with | some r => some (decide (a = b) && r) | none => none
  | .int k :: ds, .int k1 a :: xs, .int k2 b :: ys => match kEq k k1, kEq k k2, eqL ds xs ys with | true, true, some r => some (decide (a = b) && r) | _, _, _ => none
  | _, _, _ => none
section
variable {P : Program} {w : World}
variable {σ : Env} {d : Option Tmp} {ty t t' : TypeId} {pos : String} {af : Array Edge} {g : Option (Nat × Bool)} {x y : Operand} {ds : List TypeDesc} {xs ys : List Value} {r : Bool}
end
end Go.Sv

/- This seat's plain structs as instances (made by a program of ours). -/
namespace Go.Proofs.YtmnnffenijjpcaaDoor
open Go Go.Sv
instance : PlainS Tryd.prog 25 [.int .i64, .int .i64, .int .i64] := ⟨_, Tryd.underlying25, by kernel_rfl, by kernel_rfl, by kernel_rfl⟩
instance : PlainS Tryd.prog 26 [.int .i64, .int .i64, .int .i64] := ⟨_, Tryd.underlying26, by kernel_rfl, by kernel_rfl, by kernel_rfl⟩
instance : PlainS Tryd.prog 80 [.string, .string] := ⟨_, Tryd.underlying80, by kernel_rfl, by kernel_rfl, by kernel_rfl⟩
instance : PlainS Tryd.prog 81 [.string, .string] := ⟨_, Tryd.underlying81, by kernel_rfl, by kernel_rfl, by kernel_rfl⟩
end Go.Proofs.YtmnnffenijjpcaaDoor

/-
  sieveref18: Same, Equal, Ends; sievelaw18: own, same.
-/
set_option linter.unusedSimpArgs false
set_option linter.unusedVariables false
set_option linter.unnecessarySimpa false
namespace Go.Proofs.YtmnnffenijjpcaaDoor
open Go Go.Sv Go.RowKit

end Go.Proofs.YtmnnffenijjpcaaDoor

/-
  sievelaw18: own; event: copied.
-/
set_option linter.unusedSimpArgs false
set_option linter.unusedVariables false
set_option linter.unnecessarySimpa false
namespace Go.Proofs.YtmnnffenijjpcaaDoor
open Go Go.Sv Go.RowKit

theorem att_one (es : List At) : ∀ u ∈ es.flatMap At.cells, u.oneCell' = true := by
  intro u hu
  obtain ⟨x, _, hx⟩ := List.mem_flatMap.1 hu
  simp only [At.cells, List.mem_cons, List.not_mem_nil, or_false] at hx
  rcases hx with rfl | rfl <;> rfl
theorem evs_flat (ns : List EvM) (m : EvM) : ns.flatMap EvM.cells ++ m.cells = (ns ++ [m]).flatMap EvM.cells := by simp
theorem evs_snoc (ns : List EvM) (m : EvM) : evs (ns ++ [m]) = evs ns ++ [m.e] := by simp [evs]































































end Go.Proofs.YtmnnffenijjpcaaDoor

/-
  sievelaw18: awake, EventNames.
-/
set_option linter.unusedSimpArgs false
set_option linter.unusedVariables false
set_option linter.unnecessarySimpa false
namespace Go.Proofs.YtmnnffenijjpcaaDoor
open Go Go.Sv Go.RowKit





def ex1 : List EvM := [⟨⟨1, [98], [], []⟩, none, 0⟩, ⟨⟨2, [105], [], []⟩, none, 0⟩]
def ex2 : List EvM := [⟨⟨3, [98, 114], [], []⟩, none, 0⟩]
end Go.Proofs.YtmnnffenijjpcaaDoor

/-
  Package event: Equal, Count, Text.
-/
set_option linter.unusedSimpArgs false
set_option linter.unusedVariables false
set_option linter.unnecessarySimpa false
namespace Go.Sv
open Go Go.RowKit
section
variable {P : Program} {w : World}
variable {σ : Env} {d : Option Tmp} {ty t t' el : TypeId} {pos : String} {af : Array Edge} {g : Option (Nat × Bool)} {x y : Operand} {zv : Value} {bytes : Nat}
end
end Go.Sv
namespace Go.Proofs.YtmnnffenijjpcaaDoor
open Go Go.Sv Go.RowKit







































































































































































































end Go.Proofs.YtmnnffenijjpcaaDoor

/-
  Package event: Count, Text.
-/
set_option linter.unusedSimpArgs false
set_option linter.unusedVariables false
set_option linter.unnecessarySimpa false
namespace Go.Proofs.YtmnnffenijjpcaaDoor
open Go Go.Sv Go.RowKit

def cntR (l : List Ev) (k : Int) : Nat := l.countP fun e => decide (e.kind = k)
/-- how many of each kind -/
def cnts (l : List Ev) : List Value := [int (cntR l 0), int (cntR l 1), int (cntR l 2), int (cntR l 3)]
/-- all text in one -/
def etxt (e : Ev) : List UInt8 := if e.kind = 0 then mendR e.text else []
def textR (l : List Ev) : List UInt8 := l.flatMap etxt
end Go.Proofs.YtmnnffenijjpcaaDoor

/-
  sievelaw18: EventChecks.
-/
set_option linter.unusedSimpArgs false
set_option linter.unusedVariables false
set_option linter.unnecessarySimpa false
namespace Go.Sv
open Go Go.RowKit
section
variable {D : Type} {P : Program} {w0 w w' : World} {cs rest : List Plot} {σ : Env} {d : Option Tmp} {dd dj : Nat} {op : Op} {ty : TypeId} {pos : String} {af : Array Edge} {v : Value} {k j : Nat} {want : Bool} {ops : Array Oper} {T : Value → World → Prop} {B : Prop}
theorem y_ev (sl : List (Nat × Value)) (hs : Has σ sl) {g : Option (Nat × Bool)} (he : ev1 (updGL (lif σ) sl) op = some ⟨v, true⟩) : Y P σ ⟨d, op, ty, pos, af, g⟩ w v w := by
  have hy : Y P (real (updGL (lif σ) sl)) ⟨d, op, ty, pos, af, g⟩ w v w := ev1_ok he rfl
  rw [← frameOf sl hs] at hy
  exact hy
/-- one that only looks at what is known -/
theorem rule_e (sl : List (Nat × Value)) (hs : Has σ sl) (hT : T v w) (he : ev1 (updGL (lif σ) sl) op = some ⟨v, true⟩ := by rfl) :
    (Region.wanted (⟨d, op, ty, pos, af, none⟩ : Oper) (yl ops σ) = true ∧ comes P T ((execOp (evl σ) ⟨d, op, ty, pos, af, none⟩).run P w)) ∨ B := rule_y (y_ev sl hs he) hT
theorem rule_pure {f : FuncId} [hf : Fnc P f] {args : List Operand} {ats : Array TypeId} {vals : List Value} (hc : PureC P f vals.toArray w v) (hT : ∀ w', Frm w w' → T v w') (ha : args.map (evl σ) = vals) :
    (Region.wanted (⟨d, .call ⟨.value (.func f), args.toArray, ats⟩, ty, pos, af, none⟩ : Oper) (yl ops σ) = true ∧ comes P T ((execOp (evl σ) ⟨d, .call ⟨.value (.func f), args.toArray, ats⟩, ty, pos, af, none⟩).run P w)) ∨ B :=
  rule_call (R := fun u w' => u = v ∧ Frm w w') hc (fun _ w' h => h.1 ▸ hT w' h.2) ha
end
end Go.Sv
namespace Go.Proofs.YtmnnffenijjpcaaDoor
open Go Go.Sv Go.RowKit







structure CkD where
  q : Option Addr
  c : Nat
  ns : List EvM
def ckP (ms ns : List EvM) (p q : Option Addr) (c cc : Nat) : Plan CkD where
  val k d := match k with
    | 0 | 3 | 8 | 9 | 14 | 20 => .slice p ms.length c
    | 1 | 4 => .slice q ns.length cc
    | 2 | 5 => .bool (decide (evs ms = evs ns))
    | 10 => .slice d.q d.ns.length d.c
    | 15 | 16 => .agg ⟨cnts (evs ms)⟩
    | 21 | 22 => str (textR (evs ms))
    | _ => .bool true
  pl k d := match k with
    | 10 => [pRow 4 d.q d.ns.length d.c (d.ns.flatMap EvM.cells), pMany (d.ns.map EvM.row)]
    | _ => []
  con k := match k with
    | 10 => some 11
    | _ => none
  fact k a := match k with
    | 10 => evs (a 10).ns = evs ms
    | _ => True



















































































































































































































































































end Go.Proofs.YtmnnffenijjpcaaDoor

/-
  Regions that draw their order, by a plan, where operations may also take (and write) what lay there before.
-/
set_option linter.unusedSimpArgs false
set_option linter.unusedVariables false
set_option linter.unnecessarySimpa false
namespace Go.Sv
open Go Go.RowKit
theorem perm5 {α : Type} (A B C D E : List α) : ((A ++ B) ++ ((C ++ D) ++ E)).Perm (A ++ (C ++ (E ++ (B ++ D)))) := by
  simp only [List.append_assoc]
  refine List.Perm.append_left _ ?_
  have h1 : (B ++ (C ++ (D ++ E))).Perm (C ++ (B ++ (D ++ E))) := by
    rw [← List.append_assoc B C, ← List.append_assoc C B]
    exact List.perm_append_comm.append_right _
  refine h1.trans (List.Perm.append_left _ ?_)
  rw [← List.append_assoc]
  exact List.perm_append_comm
theorem perm4 {α : Type} (A B C D : List α) : (A ++ (B ++ (C ++ D))).Perm ((A ++ C) ++ (D ++ B)) := by
  simp only [List.append_assoc]
  refine List.Perm.append_left _ ?_
  have h1 : (B ++ (C ++ D)).Perm ((C ++ D) ++ B) := List.perm_append_comm
  rw [List.append_assoc] at h1
  exact h1
theorem perm6 {α : Type} (A B C S D E : List α) : ((A ++ B) ++ ((C ++ (S ++ D)) ++ E)).Perm (A ++ (C ++ (S ++ (E ++ (B ++ D))))) := by
  refine (perm5 A B C (S ++ D) E).trans (List.Perm.append_left _ (List.Perm.append_left _ ?_))
  have h1 : (E ++ (B ++ (S ++ D))) = ((E ++ B) ++ S) ++ D := by simp only [List.append_assoc]
  have h2 : (S ++ (E ++ (B ++ D))) = (S ++ (E ++ B)) ++ D := by simp only [List.append_assoc]
  rw [h1, h2]
  exact List.perm_append_comm.append_right _
theorem perm7 {α : Type} (A S B C D : List α) : (A ++ (S ++ (B ++ (C ++ D)))).Perm ((A ++ C) ++ ((S ++ D) ++ B)) := by
  have h1 : (A ++ (S ++ (B ++ (C ++ D)))) = (A ++ ((S ++ B) ++ (C ++ D))) := by simp only [List.append_assoc]
  rw [h1]
  refine (perm4 A (S ++ B) C D).trans (List.Perm.append_left _ ?_)
  have h2 : (S ++ D) ++ B = S ++ (D ++ B) := by simp only [List.append_assoc]
  rw [h2]
  have h3 : D ++ (S ++ B) = (D ++ S) ++ B := by simp only [List.append_assoc]
  have h4 : S ++ (D ++ B) = (S ++ D) ++ B := by simp only [List.append_assoc]
  rw [h3, h4]
  exact List.perm_append_comm.append_right _
section
variable {P : Program} {n : Nat} {ds : Ctx} {Q : Exit → Ctx → Env → World → Prop} {S : (Nat → Bool) → Env → World → Prop} {σ : Env} {w : World} {m : Nat}
theorem wpOpIn_of_I {ops : Array Oper} {dd : List Deferred} {Q' : Exit → Act → World → Prop} {T : Value → World → Prop} {K : Act → World → Prop} {i : Nat} {o : Oper} {ro : Option Nat} (hino : operIn n ro.isSome ops o = true) (ho : ops[i]? = some o)
    (h : (Region.wanted o (yl ops σ) = true ∧ comes P T ((execOp (evl σ) o).run P w)) ∨ (Region.wanted o (yl ops σ) = false ∧ T undef w))
    (next : ∀ v w', T v w' → K ((act n dd σ).put o.dst v) w') : wpOpIn (fen ro) m P ops Q' i K (act n dd σ) w := by
  unfold wpOpIn
  simp only [ho]
  rw [act_yielded hino]
  rcases h with ⟨hw, hy⟩ | ⟨hw, hy⟩
  · rw [hw, if_pos rfl]
    refine ⟨fun _ _ => fen_fn _ _, ?_⟩
    rw [fen_round, semAt_in hino, act_exec hino]
    generalize (execOp (evl σ) o).run P w = r at *
    cases r with
    | ok x w' =>
      cases x <;> simp only [comes] at hy <;> simp only [Oper.uponIn]
      case value u => exact next _ _ hy
      case skip => exact next _ _ hy
      case enter g args =>
        refine ⟨fun h => (by rw [fen_depth] at h; cases h), callsIn_fen (Calls.mono hy ?_)⟩
        rintro e w'' ⟨v, rfl, h2⟩
        exact next _ _ h2
    | halt x w' => simp only [comes] at hy
  · rw [hw, if_neg Bool.false_ne_true]
    exact ⟨fun _ _ => fen_fn _ _, next _ _ hy⟩
theorem wpAnyIn_of_I {ops : Array Oper} {dd : List Deferred} {Q' : Exit → Act → World → Prop} {ro : Option Nat} (hf : fwdB ops = true) (hin : ops.toList.all (operIn n ro.isSome ops) = true) (hop : ∀ k o, ops[k]? = some o → StepI P ops S k o)
    (hQ : ∀ L σ w, (∀ k, k < ops.size → L k = true) → S L σ w → Q' .normal (act n dd σ) w) :
    ∀ (f : Nat) (listed : Array Bool) (σ : Env) (w : World), listed.size = ops.size → Clo ops (fl listed) → listed.toList.count false ≤ f → S (fl listed) σ w → wpAnyIn (fen ro) m P .any ops Q' f listed (act n dd σ) w
  | 0, listed, σ, w, hsz, _, hc, hS => by
    have hall : ∀ k, k < ops.size → fl listed k = true := by
      intro k hk
      cases hL : fl listed k with
      | true => rfl
      | false =>
        exfalso
        simp only [fl, Array.getD_eq_getD_getElem?, show k < listed.size from by omega, Array.getElem?_eq_getElem, Option.getD_some] at hL
        have : false ∈ listed.toList := by rw [← hL]; simp
        have := List.count_pos_iff.2 this
        omega
    refine ⟨?_, hQ _ _ _ hall hS⟩
    cases hr : Region.ready .any ops listed with
    | nil => rfl
    | cons i r =>
      exfalso
      have hi : i ∈ Region.ready .any ops listed := by rw [hr]; exact List.mem_cons_self
      obtain ⟨h0, o, ho, _⟩ := mem_ready.1 hi
      have hk : i < ops.size := (Array.getElem?_eq_some_iff.1 ho).1
      have := hall i hk
      simp only [fl, Array.getD_eq_getD_getElem?, show i < listed.size from by omega, Array.getElem?_eq_getElem, Option.getD_some] at this h0
      rw [this] at h0
      cases h0
  | f + 1, listed, σ, w, hsz, hcl, hc, hS => by
    refine ⟨fun hr => hQ _ _ _ (ready_of_fwd hf hsz hr) hS, fun i hi => ?_⟩
    obtain ⟨h0, o, ho, hall⟩ := mem_ready.1 hi
    have hio : i < ops.size := (Array.getElem?_eq_some_iff.1 ho).1
    have hlt : i < listed.size := by omega
    have h0' : listed[i] = false := by simpa [hlt] using h0
    have hup : Up ops o i (fl listed) := by
      refine ⟨by simp [fl, hlt, h0'], ?_, ?_⟩
      · intro j hj
        obtain ⟨e, he, hb, rfl⟩ := bindsOn_iff.1 hj
        exact hall e he hb
      · intro j oj hj hb
        cases hL : fl listed j with
        | false => rfl
        | true =>
          have h1 := hcl j oj hj hL i hb
          have h2 : fl listed i = true := h1
          simp [fl, hlt, h0'] at h2
    have hino : operIn n ro.isSome ops o = true := by
      rw [List.all_eq_true] at hin
      exact hin o (by simpa using Array.mem_of_getElem? ho)
    refine wpOpIn_of_I hino ho (hop i o ho _ σ w hup hS) fun v w' hw' => ?_
    rw [act_put (operIn_dst hino)]
    refine wpAnyIn_of_I hf hin hop hQ f _ _ _ (by simpa using hsz) (by rw [fl_set hlt]; exact clo_on hcl ho hup.did) ?_ (by rw [fl_set hlt]; exact hw')
    rw [Array.toList_setIfInBounds, List.count_set]
    · have hb : listed.toList[i]'(by simpa using hlt) = false := by simpa using h0'
      have hpos : 0 < listed.toList.count false := List.count_pos_iff.2 (by rw [← hb]; exact List.getElem_mem _)
      rw [hb]; simp only [beq_self_eq_true, if_true]; simp; rw [Array.count_toList] at *; omega
    · simpa using hlt
/-- a region that draws, within whatever round -/
theorem wcdrawir [hm : Mix P] {id : Nat} {ops : List Oper} (S : (Nat → Bool) → Env → World → Prop) (h0 : ∀ wd, Frm w wd → S (fun _ => false) σ wd) (hop : StepsI P ops.toArray S 0 ops)
    (hend : ∀ L σ' w', (∀ k, k < ops.length → L k = true) → S L σ' w' → Q .normal ds σ' w') (hf : fwdB ops.toArray = true := by kernel_rfl) : WC P n ds (.region id ops.toArray true) Q σ w := by
  unfold WC
  intro hin
  have hin' : ops.all (operIn n ds.ro.isSome ops.toArray) = true := by simpa [codeIn] using hin
  refine wpIn_region_any hm.ok ?_
  have e0 : fl (Array.replicate ops.toArray.size false) = fun _ => false := by funext k; exact getD_replicate_false _ _
  refine wpAnyIn_of_I (S := S) (n := n) hf (by simpa using hin') (fun k o ho => ?_) ?_ _ _ _ _ (by simp) ?_ ?_ ?_
  · have := stepsI_get hop k o (by simpa using ho)
    rwa [Nat.zero_add] at this
  · intro L σ' w' hL hS
    exact ⟨ds.ds, σ', rfl, hend L σ' w' (by simpa using hL) hS⟩
  · rw [e0]; intro j oj _ hL; cases hL
  · simp
  · rw [e0]; exact h0 _ (Frm.drawn (Frm.refl w))
end
/-- what an operation leaves: its value, and where what it made lies -/
structure PD (X : Type) where
  v : Value
  p : Option Addr
  c : Nat
  b : Nat
  x : X
structure PlanB (X : Type) where
  pl : Nat → PD X → List Plot
  con : Nat → Option Nat
  base : Nat → List Plot
  fact : Nat → (Nat → PD X) → Prop
section
variable {X : Type}
def PlanB.live (p : PlanB X) (L : Nat → Bool) (j : Nat) : Bool := L j && (match p.con j with | some c => !L c | none => true)
def PlanB.mem (p : PlanB X) (n : Nat) (L : Nat → Bool) (a : Nat → PD X) : List Plot := ((List.range n).filter (p.live L)).flatMap fun j => p.pl j (a j)
/-- what operation k takes -/
def PlanB.takes (p : PlanB X) (n k : Nat) (a : Nat → PD X) : List Plot := ((List.range n).filter fun j => decide (p.con j = some k)).flatMap fun j => p.pl j (a j)
/-- what lay there before and is still to be taken -/
def PlanB.bmem (p : PlanB X) (n : Nat) (L : Nat → Bool) : List Plot := ((List.range n).filter fun j => !L j).flatMap p.base
def PlanB.S (p : PlanB X) (w0 : World) (cs : List Plot) (σ0 : Env) (ops : List Oper) (L : Nat → Bool) (σ : Env) (w : World) : Prop :=
  (∀ s, (∀ (k : Nat) (o : Oper), ops[k]? = some o → L k = true → o.dst ≠ some s) → σ s = σ0 s) ∧
  ∃ a : Nat → PD X, (∀ (k : Nat) (o : Oper), ops[k]? = some o → L k = true → (∀ d, o.dst = some d → σ d = (a k).v) ∧ p.fact k a) ∧ Sep w0 w (p.mem ops.length L a ++ (p.bmem ops.length L ++ cs))
/-- what k can see of what is to be taken by those that wait for it -/
def seesB (ops : List Oper) (k j : Nat) : Bool := decide (j ≠ k) && (match ops[j]? with | some oj => bindsOn oj k | none => false)
def PlanB.seen (p : PlanB X) (ops : List Oper) (k : Nat) : List Plot := ((List.range ops.length).filter (seesB ops k)).flatMap p.base
/-- how operation k goes, by the plan -/
def PlanB.Rule (p : PlanB X) (P : Program) (w0 : World) (cs : List Plot) (σ0 : Env) (ops : List Oper) (k : Nat) (o : Oper) : Prop :=
  ∀ (a : Nat → PD X) (σ : Env) (w : World) (rest : List Plot), (∀ s, (∀ (j : Nat) (o : Oper), ops[j]? = some o → j ≠ k → bindsOn o k = false → o.dst ≠ some s) → σ s = σ0 s) →
    (∀ (j : Nat) (oj : Oper), bindsOn o j = true → ops[j]? = some oj → (∀ d, oj.dst = some d → σ d = (a j).v) ∧ p.fact j a) → Sep w0 w (p.takes ops.length k a ++ (p.base k ++ (p.seen ops k ++ (cs ++ rest)))) →
    (Region.wanted o (yl ops.toArray σ) = true ∧ comes P (fun v w' => ∃ d, v = d.v ∧ p.fact k (setD a k d) ∧ Sep w0 w' (p.pl k d ++ (p.seen ops k ++ (cs ++ rest)))) ((execOp (evl σ) o).run P w)) ∨
    (Region.wanted o (yl ops.toArray σ) = false ∧ ∃ d, undef = d.v ∧ p.fact k (setD a k d) ∧ Sep w0 w (p.pl k d ++ (p.seen ops k ++ (cs ++ rest))))
def PlanB.Rules (p : PlanB X) (P : Program) (w0 : World) (cs : List Plot) (σ0 : Env) (ops : List Oper) : Nat → List Oper → Prop
  | _, [] => True
  | k, o :: l => p.Rule P w0 cs σ0 ops k o ∧ p.Rules P w0 cs σ0 ops (k + 1) l
theorem planb_core {p : PlanB X} {w0 : World} {cs : List Plot} {σ0 : Env} {ops : List Oper} (hB : planB p.con ops = true)
    (hF : ∀ (j : Nat) (oj : Oper) (a a' : Nat → PD X), ops[j]? = some oj → a j = a' j → (∀ i, bindsOn oj i = true → a i = a' i) → p.fact j a → p.fact j a') {k : Nat} {o : Oper} (hk : ops[k]? = some o) {L : Nat → Bool} {σ : Env} {w : World} (hu : Up ops.toArray o k L) (hS0 : p.S w0 cs σ0 ops L σ w) :
    ∃ (a : Nat → PD X) (rest : List Plot), (∀ s, (∀ (j : Nat) (o : Oper), ops[j]? = some o → j ≠ k → bindsOn o k = false → o.dst ≠ some s) → σ s = σ0 s) ∧
      (∀ (j : Nat) (oj : Oper), bindsOn o j = true → ops[j]? = some oj → (∀ d, oj.dst = some d → σ d = (a j).v) ∧ p.fact j a) ∧ Sep w0 w (p.takes ops.length k a ++ (p.base k ++ (p.seen ops k ++ (cs ++ rest)))) ∧
      ∀ d w', p.fact k (setD a k d) → Sep w0 w' (p.pl k d ++ (p.seen ops k ++ (cs ++ rest))) → p.S w0 cs σ0 ops (on L k) (updO σ o.dst (d.v)) w' := by
  obtain ⟨hσ, a, hA, hS⟩ := hS0
  have hkn : k < ops.length := by
    rcases Nat.lt_or_ge k ops.length with h | h
    · exact h
    · rw [List.getElem?_eq_none h] at hk; cases hk
  have hcon : ∀ j c, j < ops.length → p.con j = some c → ∃ oc, ops[c]? = some oc ∧ bindsOn oc j = true := by
    intro j c hj hc
    have := List.all_eq_true.1 hB j (List.mem_range.2 hj)
    rw [Bool.and_eq_true, hc] at this
    have h1 := this.1
    simp only [Bool.and_eq_true, decide_eq_true_eq] at h1
    rw [List.getElem?_eq_getElem h1.1] at h1
    exact ⟨_, List.getElem?_eq_getElem h1.1, h1.2⟩
  have hdst : ∀ (i j : Nat) (oi oj : Oper) (d : Nat), ops[i]? = some oi → ops[j]? = some oj → i ≠ j → oi.dst = some d → oj.dst ≠ some d := by
    intro i j oi oj d hi hj hne hd
    have hjn : j < ops.length := (List.getElem?_eq_some_iff.1 hj).1
    have hin : i < ops.length := (List.getElem?_eq_some_iff.1 hi).1
    have := List.all_eq_true.1 hB j (List.mem_range.2 hjn)
    rw [Bool.and_eq_true] at this
    have := List.all_eq_true.1 this.2 i (List.mem_range.2 hin)
    rw [hi, hj] at this
    simp only [hne, decide_false, Bool.false_or, hd, decide_eq_true_eq] at this
    exact this
  -- what k takes, and the rest
  let q : Nat → Bool := fun j => p.live L j && !decide (p.con j = some k)
  let rest0 : List Plot := ((List.range ops.length).filter q).flatMap fun j => p.pl j (a j)
  let bm : List Plot := p.bmem ops.length (on L k)
  let bm2 : List Plot := (((List.range ops.length).filter fun j => !(on L k) j).filter fun j => !(seesB ops k j)).flatMap p.base
  let rest : List Plot := rest0 ++ bm2
  have hsee : bm.Perm (p.seen ops k ++ bm2) := by
    have h2 := List.filter_append_perm (seesB ops k) ((List.range ops.length).filter fun j => !(on L k) j)
    have h3 : ((List.range ops.length).filter fun j => !(on L k) j).filter (seesB ops k) = (List.range ops.length).filter (seesB ops k) := by
      rw [List.filter_filter]
      refine List.filter_congr fun j hj => ?_
      cases hs : seesB ops k j with
      | false => rfl
      | true =>
        unfold seesB at hs
        rw [Bool.and_eq_true, decide_eq_true_eq] at hs
        obtain ⟨hne, hs⟩ := hs
        cases ho : ops[j]? with
        | none => rw [ho] at hs; cases hs
        | some oj =>
          rw [ho] at hs
          have := hu.ahead j oj (by simpa using ho) hs
          simp [on_ne L hne, this]
    rw [h3] at h2
    have h4 := h2.symm.flatMap_right p.base
    rw [List.flatMap_append] at h4
    exact h4
  have hbm : (p.bmem ops.length L).Perm (p.base k ++ bm) := by
    have hl : (List.range ops.length).filter (fun j => !L j) = (List.range ops.length).filter fun j => decide (j = k) || !(on L k) j := by
      refine List.filter_congr fun j hj => ?_
      by_cases e : j = k
      · subst e; simp [hu.now]
      · simp [e, on_ne L e]
    show (((List.range ops.length).filter fun j => !L j).flatMap p.base).Perm _
    rw [hl]
    refine ((filter_insert (q := fun j => !(on L k) j) (by simp [on_same]) List.nodup_range (List.mem_range.2 hkn)).flatMap_right p.base).trans ?_
    rw [List.flatMap_cons]
    exact List.Perm.refl _
  have htake : (List.range ops.length).filter (fun j => p.live L j && decide (p.con j = some k)) = (List.range ops.length).filter fun j => decide (p.con j = some k) := by
    refine List.filter_congr fun j hj => ?_
    by_cases hc : p.con j = some k
    · obtain ⟨oc, ho, hb⟩ := hcon j k (List.mem_range.1 hj) hc
      rw [hk] at ho
      injection ho with ho
      subst ho
      have h1 := hu.did j hb
      simp [PlanB.live, hc, h1, hu.now]
    · simp [hc]
  have hperm : (p.mem ops.length L a ++ (p.bmem ops.length L ++ cs)).Perm (p.takes ops.length k a ++ (p.base k ++ (p.seen ops k ++ (cs ++ rest)))) := by
    have h1 : ((List.range ops.length).filter fun j => decide (p.con j = some k)) ++ ((List.range ops.length).filter q) |>.Perm ((List.range ops.length).filter (p.live L)) := by
      have h2 := List.filter_append_perm (fun j => decide (p.con j = some k)) ((List.range ops.length).filter (p.live L))
      rw [List.filter_filter, List.filter_filter] at h2
      rw [← htake]
      refine List.Perm.trans ?_ h2
      refine List.Perm.append (List.Perm.of_eq (List.filter_congr fun j _ => Bool.and_comm _ _)) (List.Perm.of_eq (List.filter_congr fun j _ => Bool.and_comm _ _))
    have h3 := (h1.symm.flatMap_right fun j => p.pl j (a j))
    rw [List.flatMap_append] at h3
    exact (h3.append ((hbm.trans (List.Perm.append_left _ hsee)).append_right cs)).trans (perm6 _ _ _ _ _ _)
  have hlive : ∀ d, (p.mem ops.length (on L k) (setD a k d)).Perm (p.pl k d ++ rest0) := by
    intro d
    have hq : q k = false := by simp [q, PlanB.live, hu.now]
    have hl : (List.range ops.length).filter (p.live (on L k)) = (List.range ops.length).filter fun j => decide (j = k) || q j := by
      refine List.filter_congr fun j hj => ?_
      by_cases e : j = k
      · subst e
        have : (match p.con j with | some c => !(on L j c) | none => true) = true := by
          cases hc : p.con j with
          | none => rfl
          | some c =>
            obtain ⟨oc, ho, hb⟩ := hcon j c hkn hc
            have h1 := hu.ahead c oc (by simpa using ho) hb
            have hne : c ≠ j := by
              intro e
              subst e
              rw [hk] at ho
              injection ho with ho
              subst ho
              have := hu.did c hb
              rw [hu.now] at this
              cases this
            simp [on_ne L hne, h1]
        simp only [PlanB.live, on_same, this, Bool.and_self, decide_true, Bool.true_or]
      · simp only [PlanB.live, on_ne L e, decide_eq_false e, Bool.false_or, q]
        cases hc : p.con j with
        | none => simp
        | some c =>
          by_cases ec : c = k
          · subst ec; simp [on_same]
          · have : ¬ (some c = some k) := fun h => ec (Option.some.inj h)
            simp [on_ne L ec, this]
    unfold PlanB.mem
    rw [hl]
    refine ((filter_insert hq List.nodup_range (List.mem_range.2 hkn)).flatMap_right fun j => p.pl j (setD a k d j)).trans ?_
    rw [List.flatMap_cons, setD_same]
    refine List.Perm.append_left _ (List.Perm.of_eq ?_)
    show _ = List.flatMap (fun j => p.pl j (a j)) (List.filter q (List.range ops.length))
    rw [List.flatMap_def, List.flatMap_def]
    refine congrArg _ (List.map_congr_left fun j hj => ?_)
    have : j ≠ k := by
      rintro rfl
      have := (List.mem_filter.1 hj).2
      rw [hq] at this; cases this
    rw [setD_ne a d this]
  have hnew : ∀ d w', p.fact k (setD a k d) → Sep w0 w' (p.pl k d ++ (p.seen ops k ++ (cs ++ rest))) → p.S w0 cs σ0 ops (on L k) (updO σ o.dst (d.v)) w' := by
    intro d w' hf hS'
    refine ⟨fun s hs => ?_, setD a k d, fun j oj hj hL => ?_, ?_⟩
    · have h1 := hs k o hk (on_same L k)
      have hs' : ∀ (j : Nat) (oj : Oper), ops[j]? = some oj → L j = true → oj.dst ≠ some s := fun j oj hj hL => hs j oj hj (by
        by_cases e : j = k
        · subst e; exact on_same L j
        · rw [on_ne L e]; exact hL)
      cases hd : o.dst with
      | none => exact hσ s hs'
      | some dd =>
        rw [hd] at h1
        exact (upd_ne σ _ (fun e => h1 (by rw [e]))).trans (hσ s hs')
    · by_cases e : j = k
      · subst e
        rw [hk] at hj
        injection hj with hj
        subst hj
        refine ⟨fun dd hd => ?_, hf⟩
        rw [hd, setD_same]
        exact upd_same σ dd _
      · rw [on_ne L e] at hL
        obtain ⟨h1, h2⟩ := hA j oj hj hL
        refine ⟨fun dd hd => ?_, ?_⟩
        · rw [setD_ne a d e, ← h1 dd hd]
          cases hdo : o.dst with
          | none => rfl
          | some d2 =>
            have := hdst k j o oj d2 hk hj (fun e2 => e e2.symm) hdo
            exact upd_ne σ _ (fun e2 => this (by rw [hd, e2]))
        · refine hF j oj a _ hj (setD_ne a d e).symm (fun i hi => ?_) h2
          have : i ≠ k := by
            rintro rfl
            have := hu.ahead j oj (by simpa using hj) hi
            rw [this] at hL; cases hL
          exact (setD_ne a d this).symm
    · refine hS'.perm ?_
      exact (perm7 _ _ _ _ _).trans ((hlive d).symm.append (hsee.symm.append_right cs))
  exact ⟨a, rest, fun s hs => hσ s fun j oj hj hL => hs j oj hj (fun e => by rw [e, hu.now] at hL; cases hL) (by
      cases hb : bindsOn oj k with
      | false => rfl
      | true => have := hu.ahead j oj (by simpa using hj) hb; rw [this] at hL; cases hL), fun j oj hb hj => hA j oj hj (hu.did j hb), hS.perm hperm, hnew⟩
theorem planb_step {p : PlanB X} {P : Program} {w0 : World} {cs : List Plot} {σ0 : Env} {ops : List Oper} (hB : planB p.con ops = true)
    (hF : ∀ (j : Nat) (oj : Oper) (a a' : Nat → PD X), ops[j]? = some oj → a j = a' j → (∀ i, bindsOn oj i = true → a i = a' i) → p.fact j a → p.fact j a') {k : Nat} {o : Oper} (hk : ops[k]? = some o) (h : p.Rule P w0 cs σ0 ops k o) : StepI P ops.toArray (p.S w0 cs σ0 ops) k o := by
  intro L σ w hu hS0
  obtain ⟨a, rest, h1, h2, h3, hnew⟩ := planb_core hB hF hk hu hS0
  rcases h a σ w rest h1 h2 h3 with ⟨h1, h2⟩ | ⟨h1, d, h2, h3, h4⟩
  · refine .inl ⟨h1, comes_mono (fun v w' => ?_) h2⟩
    rintro ⟨d, rfl, hf, hS'⟩
    exact hnew d w' hf hS'
  · refine .inr ⟨h1, ?_⟩
    rw [h2]
    exact hnew d w h3 h4
theorem planb_steps {p : PlanB X} {P : Program} {w0 : World} {cs : List Plot} {σ0 : Env} {ops : List Oper} (hB : planB p.con ops = true)
    (hF : ∀ (j : Nat) (oj : Oper) (a a' : Nat → PD X), ops[j]? = some oj → a j = a' j → (∀ i, bindsOn oj i = true → a i = a' i) → p.fact j a → p.fact j a') : ∀ (l : List Oper) (k : Nat), (∀ j o, l[j]? = some o → ops[k + j]? = some o) → p.Rules P w0 cs σ0 ops k l → StepsI P ops.toArray (p.S w0 cs σ0 ops) k l
  | [], _, _, _ => trivial
  | o :: l, k, hl, hr => ⟨planb_step hB hF (by simpa using hl 0 o rfl) hr.1, planb_steps hB hF l (k + 1) (fun j o' h => by rw [show k + 1 + j = k + (j + 1) from by omega]; exact hl (j + 1) o' (by simpa using h)) hr.2⟩
/-- a region that draws, by a plan -/
theorem wcplanb {P : Program} [hm : Mix P] {n : Nat} {ds : Ctx} {Q : Exit → Ctx → Env → World → Prop} {σ : Env} {w w0 : World} {id : Nat} {ops : List Oper} {cs b : List Plot} (p : PlanB X) (d0 : PD X) (hS : Sep w0 w (b ++ cs)) (hb : (List.range ops.length).flatMap p.base = b)
    (hF : ∀ (j : Nat) (oj : Oper) (a a' : Nat → PD X), ops[j]? = some oj → a j = a' j → (∀ i, bindsOn oj i = true → a i = a' i) → p.fact j a → p.fact j a')
    (hR : p.Rules P w0 cs σ ops 0 ops)
    (hend : ∀ (a : Nat → PD X) σ' w', (∀ s, (∀ (k : Nat) (o : Oper), ops[k]? = some o → o.dst ≠ some s) → σ' s = σ s) → (∀ (k : Nat) (o : Oper), ops[k]? = some o → (∀ d, o.dst = some d → σ' d = (a k).v) ∧ p.fact k a) →
      Sep w0 w' (((List.range ops.length).filter fun j => (p.con j).isNone).flatMap (fun j => p.pl j (a j)) ++ cs) → Q .normal ds σ' w')
    (hB : planB p.con ops = true := by kernel_rfl) (hf : fwdB ops.toArray = true := by kernel_rfl) : WC P n ds (.region id ops.toArray true) Q σ w := by
  refine wcdrawir (p.S w0 cs σ ops) (fun wd hwd => ⟨fun _ _ => rfl, fun _ => d0, fun _ _ _ h => absurd h Bool.false_ne_true, ?_⟩) (planb_steps hB hF ops 0 (fun j o h => by rwa [Nat.zero_add]) hR) ?_ hf
  · have e : p.mem ops.length (fun _ => false) (fun _ => d0) = [] := by
      unfold PlanB.mem
      rw [List.filter_eq_nil_iff.2 (by intro j _; simp [PlanB.live])]
      rfl
    have e2 : p.bmem ops.length (fun _ => false) = b := by
      rw [← hb]; unfold PlanB.bmem
      rw [List.filter_eq_self.2 (by intro j _; rfl)]
    rw [e, e2]
    exact hS.grow hwd
  · rintro L σ' w' hL ⟨hσ, a, hA, hS'⟩
    refine hend a σ' w' (fun s hs => hσ s fun k o hk _ => hs k o hk) (fun k o hk => hA k o hk (hL k (List.getElem?_eq_some_iff.1 hk).1)) ?_
    have e2 : p.bmem ops.length L = [] := by
      unfold PlanB.bmem
      rw [List.filter_eq_nil_iff.2 (by intro j hj; simp [hL j (List.mem_range.1 hj)])]
      rfl
    rw [e2] at hS'
    refine hS'.perm (List.Perm.append_right _ (List.Perm.of_eq ?_))
    unfold PlanB.mem
    congr 1
    refine List.filter_congr fun j hj => ?_
    have h1 := hL j (List.mem_range.1 hj)
    simp only [PlanB.live, h1, Bool.true_and]
    cases hc : p.con j with
    | none => rfl
    | some c =>
      have := List.all_eq_true.1 hB j hj
      rw [Bool.and_eq_true, hc] at this
      have h2 := this.1
      simp only [Bool.and_eq_true, decide_eq_true_eq] at h2
      simp [hL c h2.1]
end
theorem notDstB {ops : List Oper} {s k : Nat} (h : ((List.range ops.length).all fun j => match ops[j]? with | some o => decide (j = k) || bindsOn o k || decide (o.dst ≠ some s) | none => true) = true) :
    ∀ (j : Nat) (o : Oper), ops[j]? = some o → j ≠ k → bindsOn o k = false → o.dst ≠ some s := fun j o hj hne hb => by
  have := List.all_eq_true.1 h j (List.mem_range.2 (List.getElem?_eq_some_iff.1 hj).1)
  rw [hj] at this
  simpa [hne, hb] using this
end Go.Sv

