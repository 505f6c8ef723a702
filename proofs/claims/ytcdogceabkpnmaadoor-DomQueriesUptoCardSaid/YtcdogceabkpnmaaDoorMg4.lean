/-
  Our texts SvJn, SvLqA, SvDqB, SvNd, SvLkE, SvNe, SvEvW, SvEvX, SvFd, SvDqC, SvRf, SvTabF, SvKp, SvJmp, SvDqD, SvGen, SvEvY, SvEq, SvTabE, SvEvE, SvEvO, SvEvP, SvEvU, SvEvV, SvEcA, SvGb, SvVal, SvFe, SvTre, SvDa, SvTokJ, SvDc, SvDd, SvDmA, SvDe, SvGc, joined.
-/
import Derived.Test.YtcdogceabkpnmaaDoorMg3
import Derived.Lib.FieldsP
import Derived.ScopeJumps
import Derived.Laws.StructEq
import Derived.Test.YtcdogceabkpnmaaDoorRows
/-
  strings.Join (and Grow of a builder that has not been written).
-/
set_option linter.unusedSimpArgs false
set_option linter.unusedVariables false
set_option linter.unnecessarySimpa false
namespace Go.Sv
open Go Go.RowKit
section
variable {P : Program} {T E : TypeId} {w w' : World} {b : Nat} {q : Option Addr} {c : Nat} {s : List UInt8}
end
end Go.Sv
namespace Go.Proofs.YtcdogceabkpnmaaDoor
open Go Go.Sv Go.RowKit



































/-- texts, put together -/
def joinR (sep : List UInt8) : List (List UInt8) → List UInt8
  | [] => []
  | x :: r => x ++ r.flatMap fun y => sep ++ y
def tlen (l : List (List UInt8)) : Nat := (l.map List.length).sum
end Go.Proofs.YtcdogceabkpnmaaDoor

/-
  Package link: runs of white bytes made one blank, as a law of lists.
-/
set_option linter.unusedSimpArgs false
set_option linter.unusedVariables false
set_option linter.unnecessarySimpa false
namespace Go.Proofs.YtcdogceabkpnmaaDoor
open Go Go.Sv Go.RowKit

/-- a byte that HTML counts as white -/
def whiteR (c : Nat) : Bool := decide (c = 9 ∨ c = 10 ∨ c = 12 ∨ c = 13 ∨ c = 32)
/-- what one byte does to the text so far -/
def sqStep (x : List UInt8 × Bool) (c : UInt8) : List UInt8 × Bool :=
  if whiteR c.toNat then (x.1, !decide (x.1 = [])) else (x.1 ++ (if x.2 then [32] else []) ++ [c], false)
def sqF (l : List UInt8) : List UInt8 × Bool := l.foldl sqStep ([], false)
def sqR (l : List UInt8) : List UInt8 := (sqF l).1
/-- one rune of a text as the language reads it -/
theorem dec_byte (s : List UInt8) (i : Nat) (hi : i < s.length) : ∃ r m, Utf8.decode ⟨s.toArray⟩ i = (r, m) ∧ 1 ≤ m ∧ i + m ≤ s.length ∧ ((r = at0 (s.drop i) 0 ∧ r < 128 ∧ m = 1) ∨ (128 ≤ r ∧ ∀ k, k < m → 128 ≤ at0 (s.drop i) k)) := by
  have hpos : 0 < (s.drop i).length := by simp; omega
  have hpr := pieceR_rng (s.drop i) hpos
  have hdl : (s.drop i).length = s.length - i := by simp
  cases hp : (pieceR (s.drop i)).2.2 with
  | true =>
    have hr := right_of _ hp
    obtain ⟨r, g1, g2, g3, g4, g5, g6⟩ := enc_right (s.drop i) hpos hr
    refine ⟨_, _, decode_right s i hr, hpr.1, by omega, ?_⟩
    rw [g1, Int.toNat_natCast]
    rcases Nat.lt_or_ge r 128 with h | h
    · obtain ⟨e1, e2⟩ := g5 h
      exact .inl ⟨e2.symm, h, e1⟩
    · exact .inr ⟨h, g6 h⟩
  | false =>
    refine ⟨_, _, decode_wrong s i hp, Nat.le_refl _, by omega, .inr ⟨by decide, fun k hk => ?_⟩⟩
    obtain rfl : k = 0 := by omega
    rcases Nat.lt_or_ge (at0 (s.drop i) 0) 128 with h | h
    · rw [right1 _ h] at hp; cases hp
    · exact h
/-- a piece of a text, by its ends -/
def cutAB (s : List UInt8) (x : Nat × Nat) : List UInt8 := (s.take x.2).drop x.1
/-- what lies in the text so far, by the pieces found -/
def sqOf (s : List UInt8) (pos : Nat) : List (Nat × Nat) → Option Nat → List UInt8 × Bool
  | acc, none => (joinR [32] (acc.map (cutAB s)), !decide (acc = []))
  | acc, some a => (joinR [32] ((acc ++ [(a, pos)]).map (cutAB s)), false)
theorem cut_grow (s : List UInt8) (a pos m : Nat) (h : a ≤ pos) (hp : pos ≤ s.length) : cutAB s (a, pos + m) = cutAB s (a, pos) ++ (s.drop pos).take m := by
  unfold cutAB
  dsimp only
  rw [List.take_add, List.drop_append_of_le_length (by rw [List.length_take]; omega)]
theorem cut_ne (s : List UInt8) (x : Nat × Nat) (h : x.1 < x.2) (h2 : x.2 ≤ s.length) : cutAB s x ≠ [] := by
  intro e
  have := congrArg List.length e
  unfold cutAB at this
  simp at this
  omega
end Go.Proofs.YtcdogceabkpnmaaDoor

/-
  strings.FieldsFunc at a predicate of ASCII bytes, as a fold over bytes.
-/
set_option linter.unusedSimpArgs false
set_option linter.unusedVariables false
set_option linter.unnecessarySimpa false
namespace Go.Proofs.YtcdogceabkpnmaaDoor
open Go Go.Sv Go.RowKit

/-- what one byte does to the fields so far and to the one under way -/
def fStep (wb : Nat → Bool) (x : List (List UInt8) × List UInt8) (c : UInt8) : List (List UInt8) × List UInt8 :=
  if wb c.toNat then (if x.2 = [] then x else (x.1 ++ [x.2], [])) else (x.1, x.2 ++ [c])
def fFold (wb : Nat → Bool) (l : List UInt8) : List (List UInt8) × List UInt8 := l.foldl (fStep wb) ([], [])
def fEnd (x : List (List UInt8) × List UInt8) : List (List UInt8) := if x.2 = [] then x.1 else x.1 ++ [x.2]
def fldR (wb : Nat → Bool) (l : List UInt8) : List (List UInt8) := fEnd (fFold wb l)
theorem fFold_snoc {wb : Nat → Bool} {l : List UInt8} {i : Nat} {c : UInt8} (h : l[i]? = some c) : fFold wb (l.take (i + 1)) = fStep wb (fFold wb (l.take i)) c := by
  unfold fFold
  rw [List.take_add_one, h, Option.toList, List.foldl_append]
  rfl
theorem f_run {wb : Nat → Bool} : ∀ (y : List UInt8) (x : List (List UInt8) × List UInt8), (∀ c ∈ y, wb c.toNat = false) → y.foldl (fStep wb) x = (x.1, x.2 ++ y)
  | [], x, _ => by simp
  | c :: y, x, hw => by
    have h := hw c (by simp)
    rw [List.foldl_cons, f_run y _ fun e he => hw e (List.mem_cons_of_mem _ he)]
    unfold fStep
    rw [h]
    simp
def fOf (s : List UInt8) (pos : Nat) : List (Nat × Nat) → Option Nat → List (List UInt8) × List UInt8
  | acc, none => (acc.map (cutAB s), [])
  | acc, some a => (acc.map (cutAB s), cutAB s (a, pos))
theorem f_spans (s : List UInt8) (p wb : Nat → Bool) (hwb : ∀ c, 128 ≤ c → wb c = false) (hp : ∀ r, r ≤ 1114111 → p r = wb r) : ∀ (f pos : Nat) (st : Option Nat) (acc : List (Nat × Nat)), s.length ≤ pos + f → pos ≤ s.length →
    (∀ a, st = some a → a < pos) → fFold wb (s.take pos) = fOf s pos acc st →
    fFold wb s = fOf s s.length (Lib.spansFromP p ⟨s.toArray⟩ f pos st acc).1 (Lib.spansFromP p ⟨s.toArray⟩ f pos st acc).2 ∧
      ∀ a, (Lib.spansFromP p ⟨s.toArray⟩ f pos st acc).2 = some a → a < s.length
  | 0, pos, st, acc, hf, hl, hst, he => by
    obtain rfl : pos = s.length := by omega
    rw [List.take_length] at he
    exact ⟨he, hst⟩
  | f + 1, pos, st, acc, hf, hl, hst, he => by
    rcases Nat.lt_or_ge pos s.length with hlt | hge
    · obtain ⟨r, m, hd, hm1, hml, hcase⟩ := dec_byte s pos hlt
      have hrle : r ≤ 1114111 := by have := Lib.rune_le ⟨s.toArray⟩ pos; rw [hd] at this; exact this
      have htake : fFold wb (s.take (pos + m)) = ((s.drop pos).take m).foldl (fStep wb) (fFold wb (s.take pos)) := by
        unfold fFold
        rw [List.take_add, List.foldl_append]
      have hsz : pos < (ByteArray.mk s.toArray).size := by rw [size_str]; exact hlt
      cases hw : wb r with
      | true =>
        have h128 : r < 128 := by
          rcases Nat.lt_or_ge r 128 with h | h
          · exact h
          · rw [hwb r h] at hw; cases hw
        rcases hcase with ⟨hr, _, rfl⟩ | ⟨h, _⟩
        rotate_left
        · omega
        have hone : (s.drop pos).take 1 = [UInt8.ofNat r] := by
          rw [List.drop_eq_getElem_cons hlt, List.take_succ_cons, List.take_zero, hr]
          simp [at0, hlt]
        have hstep : fFold wb (s.take (pos + 1)) = (if (fFold wb (s.take pos)).2 = [] then fFold wb (s.take pos) else ((fFold wb (s.take pos)).1 ++ [(fFold wb (s.take pos)).2], [])) := by
          rw [htake, hone, List.foldl_cons, List.foldl_nil]
          have : (UInt8.ofNat r).toNat = r := by simp; omega
          unfold fStep
          rw [this, if_pos hw]
        cases st with
        | none =>
          have e : Lib.spansFromP p ⟨s.toArray⟩ (f + 1) pos none acc = Lib.spansFromP p ⟨s.toArray⟩ f (pos + 1) none acc := by
            simp only [Lib.spansFromP, if_pos hsz, hd, hp r hrle, hw, if_true]
          rw [e]
          refine f_spans s p wb hwb hp f (pos + 1) none acc (by omega) (by omega) (fun a h => by cases h) ?_
          rw [hstep, he]
          simp only [fOf, if_true]
        | some a =>
          have e : Lib.spansFromP p ⟨s.toArray⟩ (f + 1) pos (some a) acc = Lib.spansFromP p ⟨s.toArray⟩ f (pos + 1) none (acc ++ [(a, pos)]) := by
            simp only [Lib.spansFromP, if_pos hsz, hd, hp r hrle, hw, if_true]
          have hne := cut_ne s (a, pos) (hst a rfl) hl
          rw [e]
          refine f_spans s p wb hwb hp f (pos + 1) none _ (by omega) (by omega) (fun a h => by cases h) ?_
          rw [hstep, he]
          simp only [fOf, List.map_append, List.map_cons, List.map_nil]
          exact if_neg hne
      | false =>
        have hnw : ∀ c ∈ (s.drop pos).take m, wb c.toNat = false := by
          intro c hc
          obtain ⟨k, hk, rfl⟩ := List.getElem_of_mem hc
          have hkm : k < m := by simp at hk; omega
          have hat : at0 (s.drop pos) k = (((s.drop pos).take m)[k]).toNat := by
            simp only [at0]
            rw [List.getElem_take, List.getElem?_eq_getElem (by simp at hk ⊢; omega)]
            rfl
          rcases hcase with ⟨hr, _, rfl⟩ | ⟨h, h2⟩
          · obtain rfl : k = 0 := by omega
            rw [← hat, ← hr]; exact hw
          · rw [← hat]; exact hwb _ (h2 k hkm)
        have hrun := f_run _ (fFold wb (s.take pos)) hnw
        rw [← htake] at hrun
        cases st with
        | none =>
          have e : Lib.spansFromP p ⟨s.toArray⟩ (f + 1) pos none acc = Lib.spansFromP p ⟨s.toArray⟩ f (pos + m) (some pos) acc := by
            simp only [Lib.spansFromP, if_pos hsz, hd, hp r hrle, hw, if_false, Bool.false_eq_true]
          rw [e]
          refine f_spans s p wb hwb hp f (pos + m) (some pos) acc (by omega) hml (fun a h => by cases h; omega) ?_
          rw [hrun, he]
          simp only [fOf]
          rw [cut_grow s pos pos m (Nat.le_refl _) hl]
          have : cutAB s (pos, pos) = [] := by unfold cutAB; simp
          rw [this]
        | some a =>
          have e : Lib.spansFromP p ⟨s.toArray⟩ (f + 1) pos (some a) acc = Lib.spansFromP p ⟨s.toArray⟩ f (pos + m) (some a) acc := by
            simp only [Lib.spansFromP, if_pos hsz, hd, hp r hrle, hw, if_false, Bool.false_eq_true]
          have hap := hst a rfl
          rw [e]
          refine f_spans s p wb hwb hp f (pos + m) (some a) acc (by omega) hml (fun b h => by cases h; omega) ?_
          rw [hrun, he]
          simp only [fOf]
          rw [cut_grow s a pos m (by omega) hl]
    · obtain rfl : pos = s.length := by omega
      rw [Lib.spansFromP_end _ _ _ _ _ _ (by rw [size_str]; omega)]
      rw [List.take_length] at he
      exact ⟨he, hst⟩
theorem fields_eq (s : List UInt8) (p wb : Nat → Bool) (hwb : ∀ c, 128 ≤ c → wb c = false) (hp : ∀ r, r ≤ 1114111 → p r = wb r) :
    (Lib.goFieldsP p ⟨s.toArray⟩).map Value.string = strs (fldR wb s) ∧ (Lib.goFieldsP p ⟨s.toArray⟩).length = (fldR wb s).length := by
  obtain ⟨h1, h2⟩ := f_spans s p wb hwb hp s.length 0 none [] (by omega) (Nat.zero_le _) (fun a h => by cases h) rfl
  have hspan : Lib.spansOfP p ⟨s.toArray⟩ = Lib.closeSpans ⟨s.toArray⟩ (Lib.spansFromP p ⟨s.toArray⟩ s.length 0 none []) := by unfold Lib.spansOfP; rw [size_str]
  have hL : fldR wb s = (Lib.spansOfP p ⟨s.toArray⟩).map (cutAB s) := by
    unfold fldR fEnd
    rw [h1, hspan]
    unfold Lib.closeSpans
    rw [size_str]
    cases h : (Lib.spansFromP p ⟨s.toArray⟩ s.length 0 none []).2 with
    | none => simp [fOf]
    | some a =>
      have hne := cut_ne s (a, s.length) (h2 a h) (Nat.le_refl _)
      simp only [fOf, List.map_append, List.map_cons, List.map_nil]
      exact if_neg hne
  rw [hL]
  refine ⟨?_, ?_⟩
  · unfold Lib.goFieldsP strs
    rw [List.map_map, List.map_map]
    refine List.map_congr_left fun x _ => ?_
    simp only [Function.comp]
    unfold cutAB
    show Value.string _ = Value.string _
    congr 1
    apply ByteArray.ext
    apply Array.ext'
    simp [List.drop_take]
  · unfold Lib.goFieldsP
    simp
end Go.Proofs.YtcdogceabkpnmaaDoor

/-
  Trees: what they are, how they lie in memory.
-/
set_option linter.unusedSimpArgs false
set_option linter.unusedVariables false
set_option linter.unnecessarySimpa false
namespace Go.Proofs.YtcdogceabkpnmaaDoor
open Go Go.Sv Go.RowKit

/-- a list of trees: a node, what is in it, and the rest -/
inductive Fo where
  | nil
  | cons (name text : List UInt8) (attrs : List At) (kids rest : Fo)
  deriving DecidableEq
/-- .. as it lies in memory -/
inductive FoM where
  | nil
  | cons (name text : List UInt8) (attrs : List At) (ap : Option Addr) (ac : Nat) (kids : FoM) (kp : Option Addr) (kc : Nat) (rest : FoM)
structure NdM where
  name : List UInt8
  text : List UInt8
  attrs : List At
  ap : Option Addr
  ac : Nat
  kids : FoM
  kp : Option Addr
  kc : Nat
namespace FoM
def list : FoM → List NdM
  | .nil => []
  | .cons n t es ap ac ks kp kc r => ⟨n, t, es, ap, ac, ks, kp, kc⟩ :: r.list
def of : List NdM → FoM
  | [] => .nil
  | m :: l => .cons m.name m.text m.attrs m.ap m.ac m.kids m.kp m.kc (of l)
theorem list_of (l : List NdM) : (of l).list = l := by
  induction l with
  | nil => rfl
  | cons m l ih => simp only [of, list, ih]
def len (f : FoM) : Nat := f.list.length
def size : FoM → Nat
  | .nil => 0
  | .cons _ _ _ _ _ ks _ _ r => 1 + ks.size + r.size
def wt : FoM → Nat
  | .nil => 0
  | .cons n t es _ _ ks _ _ r => 4 + n.length + t.length + (es.map At.wt).sum + ks.wt + r.wt
def fo : FoM → Fo
  | .nil => .nil
  | .cons n t es _ _ ks _ _ r => .cons n t es ks.fo r.fo
theorem size_mem {f : FoM} {m : NdM} (h : m ∈ f.list) : m.kids.size < f.size := by
  induction f with
  | nil => cases h
  | cons n t es ap ac ks kp kc r _ ih =>
    rcases List.mem_cons.1 h with rfl | h
    · simp only [size]; omega
    · have := ih h; simp only [size]; omega
theorem wt_mem {f : FoM} {m : NdM} (h : m ∈ f.list) : 4 + m.name.length + m.text.length + (m.attrs.map At.wt).sum + m.kids.wt ≤ f.wt := by
  induction f with
  | nil => cases h
  | cons n t es ap ac ks kp kc r _ ih =>
    rcases List.mem_cons.1 h with rfl | h
    · simp only [wt]; omega
    · have := ih h; simp only [wt]; omega
theorem len_wt (f : FoM) : f.len ≤ f.wt := by
  induction f with
  | nil => exact Nat.le_refl _
  | cons n t es ap ac ks kp kc r _ ih => simp only [len, list, wt, List.length_cons] at ih ⊢; omega
end FoM
def NdM.cells (m : NdM) : List Value := [str m.name, str m.text, .slice m.ap m.attrs.length m.ac, .slice m.kp m.kids.len m.kc]
theorem NdM.clen (m : NdM) : m.cells.length = 4 := rfl
theorem nd_one (m : NdM) : ∀ u ∈ m.cells, u.oneCell' = true := by simp [NdM.cells, Value.oneCell']
/-- what stands below a list of trees can be read -/
def Nds (w : World) : FoM → Prop
  | .nil => True
  | .cons _ _ es ap _ ks kp _ r => Im [] w ap (es.flatMap At.cells) ∧ Im [] w kp (ks.list.flatMap NdM.cells) ∧ Nds w ks ∧ Nds w r
/-- a list of trees that can be read -/
structure Tre (w : World) (p : Option Addr) (f : FoM) : Prop where
  im : Im [] w p (f.list.flatMap NdM.cells)
  nds : Nds w f
theorem Nds.mem {w : World} {f : FoM} (h : Nds w f) {m : NdM} (hm : m ∈ f.list) : Im [] w m.ap (m.attrs.flatMap At.cells) ∧ Tre w m.kp m.kids := by
  induction f with
  | nil => cases hm
  | cons n t es ap ac ks kp kc r _ ih =>
    obtain ⟨h1, h2, h3, h4⟩ := h
    rcases List.mem_cons.1 hm with rfl | hm
    · exact ⟨h1, h2, h3⟩
    · exact ih h4 hm
theorem Nds.frm {w w' : World} {f : FoM} (h : Nds w f) (hf : Frm w w') : Nds w' f := by
  induction f with
  | nil => trivial
  | cons n t es ap ac ks kp kc r ih1 ih2 => exact ⟨h.1.frm hf, h.2.1.frm hf, ih1 h.2.2.1, ih2 h.2.2.2⟩
theorem Tre.frm {w w' : World} {p : Option Addr} {f : FoM} (h : Tre w p f) (hf : Frm w w') : Tre w' p f := ⟨h.im.frm hf, h.nds.frm hf⟩
theorem Tre.kid {w : World} {p : Option Addr} {f : FoM} (h : Tre w p f) {m : NdM} (hm : m ∈ f.list) : Im [] w m.ap (m.attrs.flatMap At.cells) ∧ Tre w m.kp m.kids := h.nds.mem hm
/-- the rows that trees of one's own lie in, but for the topmost -/
def FoM.rows : FoM → List RowD
  | .nil => []
  | .cons _ _ es ap ac ks kp kc r => ⟨2, ap, es.length, ac, es.flatMap At.cells⟩ :: ⟨4, kp, ks.len, kc, ks.list.flatMap NdM.cells⟩ :: (ks.rows ++ r.rows)
def NdM.rows (m : NdM) : List RowD := ⟨2, m.ap, m.attrs.length, m.ac, m.attrs.flatMap At.cells⟩ :: ⟨4, m.kp, m.kids.len, m.kc, m.kids.list.flatMap NdM.cells⟩ :: m.kids.rows
theorem rows_eq (f : FoM) : f.rows = f.list.flatMap NdM.rows := by
  induction f with
  | nil => rfl
  | cons n t es ap ac ks kp kc r _ ih => simp only [FoM.rows, FoM.list, List.flatMap_cons, NdM.rows, ih, List.cons_append]
theorem nds_rows {w : World} {f : FoM} (h : ∀ r ∈ f.rows, r.ok w) : Nds w f := by
  induction f with
  | nil => trivial
  | cons n t es ap ac ks kp kc r ih1 ih2 =>
    refine ⟨RowD.im (h ⟨2, ap, es.length, ac, _⟩ (List.Mem.head _)), RowD.im (h ⟨4, kp, ks.len, kc, _⟩ (List.Mem.tail _ (List.Mem.head _))), ih1 fun x hx => h x ?_, ih2 fun x hx => h x ?_⟩
    · simp only [FoM.rows, List.mem_cons, List.mem_append]; exact .inr (.inr (.inl hx))
    · simp only [FoM.rows, List.mem_cons, List.mem_append]; exact .inr (.inr (.inr hx))
theorem Sep.tre {w0 w : World} {cs : List Plot} {q : Option Addr} {n c : Nat} {f : FoM} (h : Sep w0 w cs) (i j : Nat) (hi : cs[i]? = some (pRow 4 q n c (f.list.flatMap NdM.cells))) (hj : cs[j]? = some (pMany f.rows)) : Tre w q f :=
  ⟨h.im i hi, nds_rows (h.many j hj)⟩
structure NdM.small (m : NdM) : Prop where
  name : m.name.length ≤ 1048576
  text : m.text.length ≤ 1048576
  attrs : m.attrs.length ≤ 1048576
  each : ∀ x ∈ m.attrs, x.small
  kids : m.kids.wt ≤ 1048576
  klen : m.kids.len ≤ 1048576
theorem nd_small {f : FoM} {m : NdM} (hf : f.wt ≤ 1048576) (h : m ∈ f.list) : m.small := by
  have hw := FoM.wt_mem h
  refine ⟨by omega, by omega, ?_, fun x hx => ?_, by omega, Nat.le_trans (FoM.len_wt _) (by omega)⟩
  · have := sum_len At.wt m.attrs (by intro x _; unfold At.wt; omega); omega
  · have h1 := sum_mem At.wt m.attrs hx
    have h2 : At.wt x = x.n.length + x.v.length + 3 := rfl
    exact ⟨by omega, by omega⟩
/-- the i-th node, as it lies -/
theorem tre_at {w : World} {p : Option Addr} {f : FoM} (h : Tre w p f) {i : Nat} (hi : i < f.len) : ∃ m, f.list[i]? = some m ∧ m ∈ f.list ∧ ((f.list.flatMap NdM.cells).drop (i * 4)).take 4 = m.cells ∧ (f.list.flatMap NdM.cells).length = f.len * 4 ∧ (∃ a, p = some a) ∧ Im [] w m.ap (m.attrs.flatMap At.cells) ∧ Tre w m.kp m.kids := by
  have hx : f.list[i]? = some (f.list[i]'hi) := List.getElem?_eq_getElem hi
  have hm : f.list[i]'hi ∈ f.list := List.getElem_mem hi
  have hfl := fm_len NdM.clen f.list
  refine ⟨_, hx, hm, fm_seg NdM.clen f.list hx, hfl, h.im.sg.some ?_, (h.kid hm).1, (h.kid hm).2⟩
  rw [hfl]
  show 0 < f.len * 4
  omega
end Go.Proofs.YtcdogceabkpnmaaDoor

/-
  Package link: paths without dot segments; the twins.
-/
set_option linter.unusedSimpArgs false
set_option linter.unusedVariables false
set_option linter.unnecessarySimpa false
namespace Go.Sv
open Go Go.RowKit
section
variable {P : Program} {σ : Env} {w : World} {d : Option Tmp} {ty t t' : TypeId} {pos : String} {af : Array Edge} {g : Option (Nat × Bool)} {x y : Operand} {a b : Int} {ats : Array TypeId}
theorem y_max (hx : evl σ x = int a) (hy : evl σ y = int b) : Y P σ ⟨d, .call ⟨.builtin .max, #[x, y], ats⟩, ty, pos, af, g⟩ w (int (max a b)) w := by
  refine Y.val ?_; simp only [execOp, resolve, Sem.run_bind, Sem.run_pure, Result.andThen_ok, invoke, builtin]
  have e : (if b > a then b else a) = max a b := by omega
  simp [hx, hy, Builtin.max_, Builtin.max2, e]
end
end Go.Sv
namespace Go.Proofs.YtcdogceabkpnmaaDoor
open Go Go.Sv Go.RowKit

/-- how many bytes stand ahead of the first of some -/
def upR (l sm : List UInt8) : Nat := (l.takeWhile fun c => decide (c ∉ sm)).length
/-- the last place below n where c stands -/
def lastF (l : List UInt8) (c : Nat) : Nat → Int
  | 0 => -1
  | n + 1 => if at0 l n = c then n else lastF l c n
def lastR (l : List UInt8) (c : Nat) : Int := lastF l c l.length
def parR (l : List UInt8) : List UInt8 := l.take (max (lastR l 47) 0).toNat













def pfx (p l : List UInt8) : Bool := p.isPrefixOf l
/-- a segment's end -/
def segN (l : List UInt8) : Nat := 1 + upR (l.drop 1) [47]
def dotStep (l out : List UInt8) : List UInt8 × List UInt8 :=
  if pfx [46, 46, 47] l then (l.drop 3, out)
  else if pfx [46, 47] l then (l.drop 2, out)
  else if pfx [47, 46, 47] l then (l.drop 2, out)
  else if l = [47, 46] then ([47], out)
  else if pfx [47, 46, 46, 47] l then (l.drop 3, parR out)
  else if l = [47, 46, 46] then ([47], parR out)
  else if l = [46] ∨ l = [46, 46] then ([], out)
  else (l.drop (segN l), out ++ l.take (segN l))
def dotsF : Nat → List UInt8 → List UInt8 → List UInt8
  | 0, _, out => out
  | f + 1, l, out => if l = [] then out else dotsF f (dotStep l out).1 (dotStep l out).2
def dotsL (l out : List UInt8) : List UInt8 := dotsF l.length l out
end Go.Proofs.YtcdogceabkpnmaaDoor

/-
  sievelaw18: depth of trees.
-/
set_option linter.unusedSimpArgs false
set_option linter.unusedVariables false
set_option linter.unnecessarySimpa false
namespace Go.Proofs.YtcdogceabkpnmaaDoor
open Go Go.Sv Go.RowKit

/-- how deep elements stand in each other -/
def Fo.depth : Fo → Nat
  | .nil => 0
  | .cons n _ _ ks r => max (if n = [] then 0 else 1 + ks.depth) r.depth
def ndDepth (m : NdM) : Nat := if m.name = [] then 0 else 1 + m.kids.fo.depth
def depthL (l : List NdM) : Nat := l.foldl (fun d m => max d (ndDepth m)) 0
theorem depth_wt (f : FoM) : f.fo.depth ≤ f.wt := by
  induction f with
  | nil => exact Nat.le_refl _
  | cons n t es ap ac ks kp kc r ih1 ih2 =>
    simp only [FoM.fo, Fo.depth, FoM.wt]
    split <;> omega
end Go.Proofs.YtcdogceabkpnmaaDoor

/-
  Package event: walk.
-/
set_option linter.unusedSimpArgs false
set_option linter.unusedVariables false
set_option linter.unnecessarySimpa false
namespace Go.Proofs.YtcdogceabkpnmaaDoor
open Go Go.Sv Go.RowKit

/-- the events alone -/
def evs (ms : List EvM) : List Ev := ms.map EvM.e
/-- how the first i nest -/
def lkI (ms : List EvM) (i : Nat) : Lk := lkR ((evs ms).take i)
end Go.Proofs.YtcdogceabkpnmaaDoor

/-
  Package event: Nested, Open, Depth.
-/
set_option linter.unusedSimpArgs false
set_option linter.unusedVariables false
set_option linter.unnecessarySimpa false
namespace Go.Proofs.YtcdogceabkpnmaaDoor
open Go Go.Sv Go.RowKit


















































def mostR (m d : Nat) (k : Int) : Nat := if k = 1 ∨ k = 3 then max m (d + 1) else m




























end Go.Proofs.YtcdogceabkpnmaaDoor

/-
  Events folded into trees: the plain part.
-/
set_option linter.unusedSimpArgs false
set_option linter.unusedVariables false
set_option linter.unnecessarySimpa false
namespace Go.Proofs.YtcdogceabkpnmaaDoor
open Go Go.Sv Go.RowKit

structure Nd where
  name : List UInt8
  text : List UInt8
  attrs : List At
  kids : Fo
def Fo.list : Fo → List Nd
  | .nil => []
  | .cons n t es ks r => ⟨n, t, es, ks⟩ :: r.list
def Fo.of : List Nd → Fo
  | [] => .nil
  | m :: l => .cons m.name m.text m.attrs m.kids (of l)
theorem Fo.list_of (l : List Nd) : (Fo.of l).list = l := by
  induction l with
  | nil => rfl
  | cons m l ih => simp only [of, list, ih]
def dNd (m : Nd) : Nat := if m.name = [] then 0 else 1 + m.kids.depth
def dN : List Nd → Nat
  | [] => 0
  | m :: l => max (dNd m) (dN l)
theorem dN_of (l : List Nd) : (Fo.of l).depth = dN l := by
  induction l with
  | nil => rfl
  | cons m l ih => simp only [Fo.of, Fo.depth, dN, dNd, ih]
theorem dN_snoc (l : List Nd) (m : Nd) : dN (l ++ [m]) = max (dN l) (dNd m) := by
  induction l with
  | nil => simp [dN]
  | cons x l ih => simp only [List.cons_append, dN, ih]; omega
/-- a text behind others -/
def pushT (out : List Nd) (t : List UInt8) : List Nd :=
  match out.getLast? with
  | some m => if m.name = [] then out.dropLast ++ [{ m with text := m.text ++ t }] else out ++ [⟨[], t, [], .nil⟩]
  | none => [⟨[], t, [], .nil⟩]
/-! ## as the code goes -/
def foldG : Nat → List Ev → List Nd → List Nd × List Ev
  | 0, l, out => (out, l)
  | _ + 1, [], out => (out, [])
  | k + 1, e :: l, out =>
    if e.kind = 0 then foldG k l (pushT out e.text)
    else if e.kind = 3 then foldG k l (out ++ [⟨e.name, [], e.attrs, .nil⟩])
    else if e.kind = 1 then foldG k (foldG k l []).2 (out ++ [⟨e.name, [], e.attrs, .of (foldG k l []).1⟩])
    else (out, l)
/-- the nodes that events build, up to where they are closed, behind others; the rest -/
def foldF (l : List Ev) (out : List Nd) : List Nd × List Ev := foldG l.length l out
/-! ## as a stack goes -/
structure Fr where
  name : List UInt8
  attrs : List At
  out : List Nd
structure Mc where
  out : List Nd
  stk : List Fr
def mcStep (s : Mc) (e : Ev) : Mc :=
  if e.kind = 0 then { s with out := pushT s.out e.text }
  else if e.kind = 3 then { s with out := s.out ++ [⟨e.name, [], e.attrs, .nil⟩] }
  else if e.kind = 1 then ⟨[], ⟨e.name, e.attrs, s.out⟩ :: s.stk⟩
  else match s.stk with
    | f :: fs => ⟨f.out ++ [⟨f.name, [], f.attrs, .of s.out⟩], fs⟩
    | [] => s
def mcR (s : Mc) (l : List Ev) : Mc := l.foldl mcStep s
/-- how much higher -/
def hEv (e : Ev) : Int := if e.kind = 0 ∨ e.kind = 3 then 0 else if e.kind = 1 then 1 else -1
def hL (l : List Ev) : Int := (l.map hEv).sum
def lowS (l : List Ev) : Prop := ∀ s, s <:+ l → hL s ≤ 0
end Go.Proofs.YtcdogceabkpnmaaDoor

/-
  Selectors and trees, as plain laws: a test, a step, the steps that end at an element, the ways that a selector means; one step of the parser at a time.
-/
set_option linter.unusedSimpArgs false
set_option linter.unusedVariables false
set_option linter.unnecessarySimpa false
namespace Go.Proofs.YtcdogceabkpnmaaDoor
open Go Go.Sv Go.RowKit

/-! ## the parser, a part of a step at a time -/
def contR (nm : List UInt8) (sth : Bool) (acc : List Tst) (s : List UInt8) : Option (Stp × List UInt8) :=
  match marksR s with
  | none => none
  | some (l, r) => if sth = false ∧ acc ++ l = [] then none else some (⟨nm, acc ++ l, false⟩, r)
theorem step_cont_star (r : List UInt8) : stepR (42 :: r) = contR [] true [] r := by
  rw [step_star]
  unfold contR
  cases marksR r with
  | none => rfl
  | some x => obtain ⟨l, r1⟩ := x; simp
theorem step_cont {s : List UInt8} (h : ∀ r, s ≠ 42 :: r) : stepR s = contR (nmR s) (!decide (nmR s = [])) [] (nmT s) := by
  rw [step_other h]
  unfold contR
  cases marksR (nmT s) with
  | none => rfl
  | some x => obtain ⟨l, r1⟩ := x; simp
theorem cont_nil (nm : List UInt8) (sth : Bool) (acc : List Tst) : contR nm sth acc [] = if sth = false ∧ acc = [] then none else some (⟨nm, acc, false⟩, []) := by
  unfold contR
  rw [marks_nil]
  simp
theorem cont_stop {nm : List UInt8} {sth : Bool} {acc : List Tst} {c : UInt8} {r : List UInt8} (h : isMark c = false) : contR nm sth acc (c :: r) = if sth = false ∧ acc = [] then none else some (⟨nm, acc, false⟩, c :: r) := by
  unfold contR
  rw [marks_step, h]
  simp
theorem cont_bad {nm : List UInt8} {sth : Bool} {acc : List Tst} {c : UInt8} {r : List UInt8} (h : isMark c = true) (hm : markR c r = none) : contR nm sth acc (c :: r) = none := by
  unfold contR
  rw [marks_step, h, hm]
  simp
theorem cont_more {nm : List UInt8} {sth : Bool} {acc : List Tst} {c : UInt8} {r r1 : List UInt8} {t : Tst} (h : isMark c = true) (hm : markR c r = some (t, r1)) : contR nm sth acc (c :: r) = contR nm sth (acc ++ [t]) r1 := by
  unfold contR
  rw [marks_step, h, hm]
  simp only [if_true]
  cases marksR r1 with
  | none => rfl
  | some x => obtain ⟨l, r2⟩ := x; simp
/-! ## a mark and what follows -/
theorem mark_none {c : UInt8} {r : List UInt8} (h : nmR r = []) : markR c r = none := by unfold markR; rw [if_pos h]
theorem mark_id {r : List UInt8} (h : nmR r ≠ []) : markR 35 r = some (⟨wId, nmR r, 1⟩, nmT r) := by unfold markR; rw [if_neg h, if_pos rfl]
theorem mark_class {r : List UInt8} (h : nmR r ≠ []) : markR 46 r = some (⟨wClass, nmR r, 2⟩, nmT r) := by unfold markR; rw [if_neg h, if_neg (by decide), if_pos rfl]
theorem mark_at {r : List UInt8} (h : nmR r ≠ []) : markR 91 r = match nmT r with
    | 61 :: r1 => if nmR r1 = [] then none else match nmT r1 with
      | 93 :: r2 => some (⟨nmR r, nmR r1, 1⟩, r2)
      | _ => none
    | 93 :: r1 => some (⟨nmR r, [], 0⟩, r1)
    | _ => none := by
  unfold markR; rw [if_neg h, if_neg (by decide), if_neg (by decide)]; rfl
theorem at_val {r r1 : List UInt8} (h : nmR r ≠ []) (h1 : nmT r = 61 :: r1) : markR 91 r = if nmR r1 = [] then none else match nmT r1 with
      | 93 :: r2 => some (⟨nmR r, nmR r1, 1⟩, r2)
      | _ => none := by
  rw [mark_at h, h1]; rfl
theorem at_val0 {r r1 : List UInt8} (h : nmR r ≠ []) (h1 : nmT r = 61 :: r1) (h2 : nmR r1 = []) : markR 91 r = none := by rw [at_val h h1, if_pos h2]
theorem at_val1 {r r1 r2 : List UInt8} (h : nmR r ≠ []) (h1 : nmT r = 61 :: r1) (h2 : nmR r1 ≠ []) (h3 : nmT r1 = 93 :: r2) : markR 91 r = some (⟨nmR r, nmR r1, 1⟩, r2) := by rw [at_val h h1, if_neg h2, h3]; rfl
theorem at_val2 {r r1 : List UInt8} (h : nmR r ≠ []) (h1 : nmT r = 61 :: r1) (h3 : ∀ r2, nmT r1 ≠ 93 :: r2) : markR 91 r = none := by
  rw [at_val h h1]
  split
  · rfl
  · split
    · rename_i r2 e; exact absurd e (h3 r2)
    · rfl
theorem at_any {r r1 : List UInt8} (h : nmR r ≠ []) (h1 : nmT r = 93 :: r1) : markR 91 r = some (⟨nmR r, [], 0⟩, r1) := by rw [mark_at h, h1]; rfl
theorem at_bad {r : List UInt8} (h : nmR r ≠ []) (h1 : ∀ r1, nmT r ≠ 61 :: r1) (h2 : ∀ r1, nmT r ≠ 93 :: r1) : markR 91 r = none := by
  rw [mark_at h]
  split
  · rename_i e; exact absurd e (h1 _)
  · rename_i e; exact absurd e (h2 _)
  · rfl
/-! ## names, a byte at a time -/
theorem nm_more {s : List UInt8} {n : Nat} {c : UInt8} (h : s[n]? = some c) (hc : nmB c = true) : nmR (s.drop n) = c :: nmR (s.drop (n + 1)) ∧ nmT (s.drop n) = nmT (s.drop (n + 1)) := by
  obtain ⟨hi, rfl⟩ := List.getElem?_eq_some_iff.1 h
  rw [List.drop_eq_getElem_cons hi]
  unfold nmR nmT
  rw [List.takeWhile_cons, List.dropWhile_cons, if_pos hc, if_pos hc]
  exact ⟨rfl, rfl⟩
theorem nm_stop {s : List UInt8} {n : Nat} {c : UInt8} (h : s[n]? = some c) (hc : nmB c = false) : nmR (s.drop n) = [] ∧ nmT (s.drop n) = s.drop n := by
  obtain ⟨hi, rfl⟩ := List.getElem?_eq_some_iff.1 h
  rw [List.drop_eq_getElem_cons hi]
  unfold nmR nmT
  rw [List.takeWhile_cons, List.dropWhile_cons, hc]
  exact ⟨rfl, rfl⟩
theorem nm_end {s : List UInt8} {n : Nat} (h : s.length ≤ n) : nmR (s.drop n) = [] ∧ nmT (s.drop n) = s.drop n := by
  rw [List.drop_eq_nil_of_le h]; exact ⟨rfl, rfl⟩
theorem nm_take (s : List UInt8) : s.take (nmR s).length = nmR s := by
  conv => lhs; arg 2; rw [← nm_parts s]
  rw [List.take_left]
theorem nm_drop (s : List UInt8) : s.drop (nmR s).length = nmT s := by
  conv => lhs; arg 2; rw [← nm_parts s]
  rw [List.drop_left]
theorem nmR_le (s : List UInt8) : (nmR s).length ≤ s.length := by
  have := congrArg List.length (nm_parts s)
  rw [List.length_append] at this; omega
/-! ## whole selectors, a step at a time -/
theorem selF_none {f : Nat} {ch : Bool} {s : List UInt8} (h : stepR s = none) : selF (f + 1) ch s = none := by unfold selF; rw [h]
def selG (ch : Bool) (s : List UInt8) : Option (List Stp) := selF (s.length + 1) ch s
def tailR (r : List UInt8) : Option (List Stp) :=
  if skB r = [] then some []
  else if (skB r).head? = some 62 then selG true (skB ((skB r).drop 1))
  else if (skB r).length = r.length then none else selG false (skB r)
theorem sel_start (s : List UInt8) : selR s = selG false (skB s) := rfl
theorem selG_none {ch : Bool} {s : List UInt8} (h : stepR s = none) : selG ch s = none := selF_none h
theorem selG_some {ch : Bool} {s r : List UInt8} {p : Stp} (h : stepR s = some (p, r)) : selG ch s = (tailR r).map fun l => ⟨p.name, p.tests, ch⟩ :: l := by
  have hl := step_lt h
  have h4 := skB_le r
  have h5 := skB_le ((skB r).drop 1)
  rw [List.length_drop] at h5
  conv => lhs; unfold selG selF
  rw [h]
  dsimp only
  unfold tailR
  split
  · rfl
  split
  · unfold selG; rw [selF_fuel s.length ((skB ((skB r).drop 1)).length + 1) true _ (by omega) (by omega)]
  split
  · rfl
  · unfold selG; rw [selF_fuel s.length ((skB r).length + 1) false _ (by omega) (by omega)]
/-- blanks at the end change nothing -/
theorem selG_app {b : List UInt8} (hb : Bls b) (ch : Bool) (s : List UInt8) : selG ch (s ++ b) = selG ch s := by
  unfold selG
  rw [sel_app hb, selF_fuel ((s ++ b).length + 1) (s.length + 1) ch s (by simp; omega) (by omega)]
/-! ## does an element pass -/
def blN (c : Nat) : Bool := decide (c = 9 ∨ c = 10 ∨ c = 12 ∨ c = 32)
theorem blB_N (c : UInt8) : blB c = blN c.toNat := rfl
theorem blN_high (c : Nat) (h : 128 ≤ c) : blN c = false := decide_eq_false (by omega)
def pass1 (t : Tst) (a : At) : Bool := if t.kind = 1 then decide (a.v = t.value) else if t.kind = 2 then decide (t.value ∈ fldR blN a.v) else true
def passL (t : Tst) : List At → Bool
  | [] => false
  | a :: l => if a.n = t.attr then pass1 t a else passL t l
def fitR (p : Stp) (n : List UInt8) (es : List At) : Bool := (decide (p.name = []) || decide (p.name = n)) && p.tests.all fun t => passL t es
theorem passL_drop {t : Tst} {l : List At} {i : Nat} {a : At} (h : l[i]? = some a) : passL t (l.drop i) = if a.n = t.attr then pass1 t a else passL t (l.drop (i + 1)) := by
  obtain ⟨hi, rfl⟩ := List.getElem?_eq_some_iff.1 h
  rw [List.drop_eq_getElem_cons hi]; rfl
/-! words -/
theorem fFold_sub (wb : Nat → Bool) : ∀ (l : List UInt8) (x : List (List UInt8) × List UInt8) (w : List UInt8), w ∈ x.1 → w ∈ (l.foldl (fStep wb) x).1
  | [], _, _, h => h
  | c :: l, x, w, h => by
    rw [List.foldl_cons]
    refine fFold_sub wb l _ w ?_
    unfold fStep
    split
    · split
      · exact h
      · exact List.mem_append_left _ h
    · exact h
theorem fld_sub {wb : Nat → Bool} {l : List UInt8} {i : Nat} {w : List UInt8} (h : w ∈ (fFold wb (l.take i)).1) : w ∈ fldR wb l := by
  have h2 : w ∈ (fFold wb l).1 := by
    have e : fFold wb l = (l.drop i).foldl (fStep wb) (fFold wb (l.take i)) := by
      unfold fFold
      rw [← List.foldl_append, List.take_append_drop]
    rw [e]
    exact fFold_sub wb _ _ w h
  unfold fldR fEnd
  split
  · exact h2
  · exact List.mem_append_left _ h2
/-! ## which elements end what the steps so far mean -/
def mayK (fit : Nat → Nat → Bool) (ch : Nat → Bool) : Nat → Nat → Bool
  | 0, _ => false
  | k + 1, i => (decide (k = 0) || (if ch k then decide (0 < i) && mayK fit ch k (i - 1) else (List.range i).any (mayK fit ch k))) && fit k i
/-- an element: its name and what it carries -/
structure El where
  n : List UInt8
  es : List At
def fitAt (L : List Stp) (O : List El) (k i : Nat) : Bool := match L[k]?, O[i]? with
  | some p, some e => fitR p e.n e.es
  | _, _ => false
def chAt (L : List Stp) (k : Nat) : Bool := match L[k]? with
  | some p => p.child
  | none => false
def meansR (L : List Stp) (O : List El) : Bool := mayK (fitAt L O) (chAt L) L.length (O.length - 1)
theorem any_range (p : Nat → Bool) (i : Nat) : (List.range (i + 1)).any p = ((List.range i).any p || p i) := by
  rw [List.range_succ, List.any_append]; simp
/-- the ways of the elements that a selector means -/
def qryF (L : List Stp) (O : List El) : Fo → List Nat → Nat → List (List Nat)
  | .nil, _, _ => []
  | .cons n _ es ks r, w, i => (if n = [] then [] else (if meansR L (O ++ [⟨n, es⟩]) then [w ++ [i]] else []) ++ qryF L (O ++ [⟨n, es⟩]) ks (w ++ [i]) 0) ++ qryF L O r w (i + 1)
end Go.Proofs.YtcdogceabkpnmaaDoor

/-
  Loops over functions, with memory in pieces.
-/
set_option linter.unusedSimpArgs false
set_option linter.unusedVariables false
set_option linter.unnecessarySimpa false
namespace Go.Sv
open Go Go.RowKit
def pLoop (l : Nat) (r : Loop) : Plot where
  foot := [l]
  ok w := LoopAt w l r
  view := (none, [])
  loc _ _ h hb := (hb l (by simp)).trans h
  lt _ h x hx := by rw [List.mem_singleton.1 hx]; exact h.lt
  sg _ _ := .inl rfl
def pDef (D : Nat) : Plot where
  foot := [D]
  ok w := NoDef w D
  view := (none, [])
  loc _ _ h hb := (hb D (by simp)).trans h
  lt _ h x hx := by rw [List.mem_singleton.1 hx]; exact h.lt
  sg _ _ := .inl rfl
section
variable {w0 w w' : World} {cs : List Plot} {l D i : Nat} {r r' : Loop}
theorem Sep.loop (h : Sep w0 w cs) (hf : Frm w w') (hL : LoopAt w' l r) (hN : NoDef w' D) (hl : w.heap.size ≤ l) (hD : w.heap.size ≤ D) (hne : l ≠ D) : Sep w0 w' (pLoop l r :: pDef D :: cs) := by
  refine h.seq (ds := [pLoop l r, pDef D]) ⟨hf, ?_, ?_, ?_⟩
  · intro c hc
    rcases List.mem_cons.1 hc with rfl | hc
    · exact hL
    · rw [List.mem_singleton.1 hc]; exact hN
  · intro c hc x hx
    rcases List.mem_cons.1 hc with rfl | hc
    · rw [List.mem_singleton.1 hx]; exact hl
    · rw [List.mem_singleton.1 hc] at hx; rw [List.mem_singleton.1 hx]; exact hD
  · rw [List.pairwise_cons]
    refine ⟨fun b hb x hx hx' => ?_, List.pairwise_singleton _ _⟩
    rw [List.mem_singleton.1 hb] at hx'
    rw [List.mem_singleton.1 hx] at hx'
    exact hne (List.mem_singleton.1 hx')
theorem Sep.loopAt (h : Sep w0 w cs) (i : Nat) (hi : cs[i]? = some (pLoop l r)) : LoopAt w l r := h.at (c := pLoop l r) i hi
theorem Sep.noDef (h : Sep w0 w cs) (i : Nat) (hi : cs[i]? = some (pDef D)) : NoDef w D := h.at (c := pDef D) i hi
theorem Sep.turnLoop (h : Sep w0 w cs) (i : Nat) (hi : cs[i]? = some (pLoop l r)) (hl : Le [l] w w') (hL : LoopAt w' l r') : Sep w0 w' (cs.set i (pLoop l r')) :=
  h.upd i hi (lm_own hl) hL
/-- a piece that is given away -/
theorem Sep.lose {c : Plot} (h : Sep w0 w (c :: cs)) (hl : Le c.foot w w') : Sep w0 w' cs := by
  have hp := h.apart
  rw [List.pairwise_cons] at hp
  exact h.tail.le hl (fun d hd x hx hm => hp.1 d hd x hm hx) (h.low _ List.mem_cons_self)
theorem Sep.undef (h : Sep w0 w (pDef D :: cs)) : Sep w0 (w.putObj D (.deferred none)) cs := h.lose (le_putObj w D _)
end
end Go.Sv

/- This seat's function types as instances (made by a program of ours). -/
namespace Go.Proofs.YtcdogceabkpnmaaDoor
open Go Go.Sv
instance : Agg Tryd.prog 1 false := ⟨_, Tryd.underlying1, rfl⟩
instance : Inf Tryd.prog 1 (.nilFunc) 1 8 := ⟨by kernel_rfl⟩
instance : Agg Tryd.prog 24 false := ⟨_, Tryd.underlying24, rfl⟩
instance : Inf Tryd.prog 24 (.nilFunc) 1 8 := ⟨by kernel_rfl⟩
instance : Agg Tryd.prog 26 false := ⟨_, Tryd.underlying26, rfl⟩
instance : Inf Tryd.prog 26 (.nilFunc) 1 8 := ⟨by kernel_rfl⟩
instance : Agg Tryd.prog 27 false := ⟨_, Tryd.underlying27, rfl⟩
instance : Inf Tryd.prog 27 (.nilFunc) 1 8 := ⟨by kernel_rfl⟩
instance : Agg Tryd.prog 28 false := ⟨_, Tryd.underlying28, rfl⟩
instance : Inf Tryd.prog 28 (.nilFunc) 1 8 := ⟨by kernel_rfl⟩
instance : Agg Tryd.prog 29 false := ⟨_, Tryd.underlying29, rfl⟩
instance : Inf Tryd.prog 29 (.nilFunc) 1 8 := ⟨by kernel_rfl⟩
instance : Agg Tryd.prog 34 false := ⟨_, Tryd.underlying34, rfl⟩
instance : Inf Tryd.prog 34 (.nilFunc) 1 8 := ⟨by kernel_rfl⟩
instance : Agg Tryd.prog 35 false := ⟨_, Tryd.underlying35, rfl⟩
instance : Inf Tryd.prog 35 (.nilFunc) 1 8 := ⟨by kernel_rfl⟩
instance : Agg Tryd.prog 36 false := ⟨_, Tryd.underlying36, rfl⟩
instance : Inf Tryd.prog 36 (.nilFunc) 1 8 := ⟨by kernel_rfl⟩
instance : Agg Tryd.prog 37 false := ⟨_, Tryd.underlying37, rfl⟩
instance : Inf Tryd.prog 37 (.nilFunc) 1 8 := ⟨by kernel_rfl⟩
instance : Agg Tryd.prog 38 false := ⟨_, Tryd.underlying38, rfl⟩
instance : Inf Tryd.prog 38 (.nilFunc) 1 8 := ⟨by kernel_rfl⟩
instance : Agg Tryd.prog 39 false := ⟨_, Tryd.underlying39, rfl⟩
instance : Inf Tryd.prog 39 (.nilFunc) 1 8 := ⟨by kernel_rfl⟩
instance : Agg Tryd.prog 40 false := ⟨_, Tryd.underlying40, rfl⟩
instance : Inf Tryd.prog 40 (.nilFunc) 1 8 := ⟨by kernel_rfl⟩
instance : Agg Tryd.prog 44 false := ⟨_, Tryd.underlying44, rfl⟩
instance : Inf Tryd.prog 44 (.nilFunc) 1 8 := ⟨by kernel_rfl⟩
instance : Agg Tryd.prog 45 false := ⟨_, Tryd.underlying45, rfl⟩
instance : Inf Tryd.prog 45 (.nilFunc) 1 8 := ⟨by kernel_rfl⟩
instance : Agg Tryd.prog 46 false := ⟨_, Tryd.underlying46, rfl⟩
instance : Inf Tryd.prog 46 (.nilFunc) 1 8 := ⟨by kernel_rfl⟩
instance : Agg Tryd.prog 48 false := ⟨_, Tryd.underlying48, rfl⟩
instance : Inf Tryd.prog 48 (.nilFunc) 1 8 := ⟨by kernel_rfl⟩
instance : Agg Tryd.prog 55 false := ⟨_, Tryd.underlying55, rfl⟩
instance : Inf Tryd.prog 55 (.nilFunc) 1 8 := ⟨by kernel_rfl⟩
instance : Agg Tryd.prog 56 false := ⟨_, Tryd.underlying56, rfl⟩
instance : Inf Tryd.prog 56 (.nilFunc) 1 8 := ⟨by kernel_rfl⟩
instance : Agg Tryd.prog 57 false := ⟨_, Tryd.underlying57, rfl⟩
instance : Inf Tryd.prog 57 (.nilFunc) 1 8 := ⟨by kernel_rfl⟩
instance : Agg Tryd.prog 58 false := ⟨_, Tryd.underlying58, rfl⟩
instance : Inf Tryd.prog 58 (.nilFunc) 1 8 := ⟨by kernel_rfl⟩
instance : Agg Tryd.prog 59 false := ⟨_, Tryd.underlying59, rfl⟩
instance : Inf Tryd.prog 59 (.nilFunc) 1 8 := ⟨by kernel_rfl⟩
instance : Agg Tryd.prog 60 false := ⟨_, Tryd.underlying60, rfl⟩
instance : Inf Tryd.prog 60 (.nilFunc) 1 8 := ⟨by kernel_rfl⟩
instance : Agg Tryd.prog 61 false := ⟨_, Tryd.underlying61, rfl⟩
instance : Inf Tryd.prog 61 (.nilFunc) 1 8 := ⟨by kernel_rfl⟩
instance : Agg Tryd.prog 63 false := ⟨_, Tryd.underlying63, rfl⟩
instance : Inf Tryd.prog 63 (.nilFunc) 1 8 := ⟨by kernel_rfl⟩
instance : Agg Tryd.prog 64 false := ⟨_, Tryd.underlying64, rfl⟩
instance : Inf Tryd.prog 64 (.nilFunc) 1 8 := ⟨by kernel_rfl⟩
instance : Agg Tryd.prog 65 false := ⟨_, Tryd.underlying65, rfl⟩
instance : Inf Tryd.prog 65 (.nilFunc) 1 8 := ⟨by kernel_rfl⟩
instance : Agg Tryd.prog 68 false := ⟨_, Tryd.underlying68, rfl⟩
instance : Inf Tryd.prog 68 (.nilFunc) 1 8 := ⟨by kernel_rfl⟩
instance : Agg Tryd.prog 71 false := ⟨_, Tryd.underlying71, rfl⟩
instance : Inf Tryd.prog 71 (.nilFunc) 1 8 := ⟨by kernel_rfl⟩
instance : Agg Tryd.prog 72 false := ⟨_, Tryd.underlying72, rfl⟩
instance : Inf Tryd.prog 72 (.nilFunc) 1 8 := ⟨by kernel_rfl⟩
instance : Agg Tryd.prog 73 false := ⟨_, Tryd.underlying73, rfl⟩
instance : Inf Tryd.prog 73 (.nilFunc) 1 8 := ⟨by kernel_rfl⟩
instance : Agg Tryd.prog 74 false := ⟨_, Tryd.underlying74, rfl⟩
instance : Inf Tryd.prog 74 (.nilFunc) 1 8 := ⟨by kernel_rfl⟩
instance : Agg Tryd.prog 77 false := ⟨_, Tryd.underlying77, rfl⟩
instance : Inf Tryd.prog 77 (.nilFunc) 1 8 := ⟨by kernel_rfl⟩
instance : Agg Tryd.prog 78 false := ⟨_, Tryd.underlying78, rfl⟩
instance : Inf Tryd.prog 78 (.nilFunc) 1 8 := ⟨by kernel_rfl⟩
instance : Agg Tryd.prog 79 false := ⟨_, Tryd.underlying79, rfl⟩
instance : Inf Tryd.prog 79 (.nilFunc) 1 8 := ⟨by kernel_rfl⟩
instance : Agg Tryd.prog 80 false := ⟨_, Tryd.underlying80, rfl⟩
instance : Inf Tryd.prog 80 (.nilFunc) 1 8 := ⟨by kernel_rfl⟩
instance : Agg Tryd.prog 81 false := ⟨_, Tryd.underlying81, rfl⟩
instance : Inf Tryd.prog 81 (.nilFunc) 1 8 := ⟨by kernel_rfl⟩
instance : Agg Tryd.prog 84 false := ⟨_, Tryd.underlying84, rfl⟩
instance : Inf Tryd.prog 84 (.nilFunc) 1 8 := ⟨by kernel_rfl⟩
instance : Agg Tryd.prog 85 false := ⟨_, Tryd.underlying85, rfl⟩
instance : Inf Tryd.prog 85 (.nilFunc) 1 8 := ⟨by kernel_rfl⟩
instance : Agg Tryd.prog 87 false := ⟨_, Tryd.underlying87, rfl⟩
instance : Inf Tryd.prog 87 (.nilFunc) 1 8 := ⟨by kernel_rfl⟩
instance : Agg Tryd.prog 88 false := ⟨_, Tryd.underlying88, rfl⟩
instance : Inf Tryd.prog 88 (.nilFunc) 1 8 := ⟨by kernel_rfl⟩
instance : Agg Tryd.prog 89 false := ⟨_, Tryd.underlying89, rfl⟩
instance : Inf Tryd.prog 89 (.nilFunc) 1 8 := ⟨by kernel_rfl⟩
instance : Agg Tryd.prog 91 false := ⟨_, Tryd.underlying91, rfl⟩
instance : Inf Tryd.prog 91 (.nilFunc) 1 8 := ⟨by kernel_rfl⟩
instance : Agg Tryd.prog 93 false := ⟨_, Tryd.underlying93, rfl⟩
instance : Inf Tryd.prog 93 (.nilFunc) 1 8 := ⟨by kernel_rfl⟩
instance : Agg Tryd.prog 96 false := ⟨_, Tryd.underlying96, rfl⟩
instance : Inf Tryd.prog 96 (.nilFunc) 1 8 := ⟨by kernel_rfl⟩
instance : Agg Tryd.prog 97 false := ⟨_, Tryd.underlying97, rfl⟩
instance : Inf Tryd.prog 97 (.nilFunc) 1 8 := ⟨by kernel_rfl⟩
instance : Agg Tryd.prog 98 false := ⟨_, Tryd.underlying98, rfl⟩
instance : Inf Tryd.prog 98 (.nilFunc) 1 8 := ⟨by kernel_rfl⟩
instance : Agg Tryd.prog 103 false := ⟨_, Tryd.underlying103, rfl⟩
instance : Inf Tryd.prog 103 (.nilFunc) 1 8 := ⟨by kernel_rfl⟩
instance : Agg Tryd.prog 104 false := ⟨_, Tryd.underlying104, rfl⟩
instance : Inf Tryd.prog 104 (.nilFunc) 1 8 := ⟨by kernel_rfl⟩
instance : Agg Tryd.prog 105 false := ⟨_, Tryd.underlying105, rfl⟩
instance : Inf Tryd.prog 105 (.nilFunc) 1 8 := ⟨by kernel_rfl⟩
instance : Agg Tryd.prog 110 false := ⟨_, Tryd.underlying110, rfl⟩
instance : Inf Tryd.prog 110 (.nilFunc) 1 8 := ⟨by kernel_rfl⟩
instance : Agg Tryd.prog 111 false := ⟨_, Tryd.underlying111, rfl⟩
instance : Inf Tryd.prog 111 (.nilFunc) 1 8 := ⟨by kernel_rfl⟩
instance : Agg Tryd.prog 113 false := ⟨_, Tryd.underlying113, rfl⟩
instance : Inf Tryd.prog 113 (.nilFunc) 1 8 := ⟨by kernel_rfl⟩
instance : Agg Tryd.prog 117 false := ⟨_, Tryd.underlying117, rfl⟩
instance : Inf Tryd.prog 117 (.nilFunc) 1 8 := ⟨by kernel_rfl⟩
instance : Agg Tryd.prog 118 false := ⟨_, Tryd.underlying118, rfl⟩
instance : Inf Tryd.prog 118 (.nilFunc) 1 8 := ⟨by kernel_rfl⟩
instance : Agg Tryd.prog 121 false := ⟨_, Tryd.underlying121, rfl⟩
instance : Inf Tryd.prog 121 (.nilFunc) 1 8 := ⟨by kernel_rfl⟩
instance : Agg Tryd.prog 127 false := ⟨_, Tryd.underlying127, rfl⟩
instance : Inf Tryd.prog 127 (.nilFunc) 1 8 := ⟨by kernel_rfl⟩
instance : Agg Tryd.prog 131 false := ⟨_, Tryd.underlying131, rfl⟩
instance : Inf Tryd.prog 131 (.nilFunc) 1 8 := ⟨by kernel_rfl⟩
instance : Agg Tryd.prog 132 false := ⟨_, Tryd.underlying132, rfl⟩
instance : Inf Tryd.prog 132 (.nilFunc) 1 8 := ⟨by kernel_rfl⟩
instance : Agg Tryd.prog 134 false := ⟨_, Tryd.underlying134, rfl⟩
instance : Inf Tryd.prog 134 (.nilFunc) 1 8 := ⟨by kernel_rfl⟩
instance : Agg Tryd.prog 137 false := ⟨_, Tryd.underlying137, rfl⟩
instance : Inf Tryd.prog 137 (.nilFunc) 1 8 := ⟨by kernel_rfl⟩
instance : Agg Tryd.prog 139 false := ⟨_, Tryd.underlying139, rfl⟩
instance : Inf Tryd.prog 139 (.nilFunc) 1 8 := ⟨by kernel_rfl⟩
instance : Agg Tryd.prog 140 false := ⟨_, Tryd.underlying140, rfl⟩
instance : Inf Tryd.prog 140 (.nilFunc) 1 8 := ⟨by kernel_rfl⟩
instance : Agg Tryd.prog 141 false := ⟨_, Tryd.underlying141, rfl⟩
instance : Inf Tryd.prog 141 (.nilFunc) 1 8 := ⟨by kernel_rfl⟩
instance : Agg Tryd.prog 143 false := ⟨_, Tryd.underlying143, rfl⟩
instance : Inf Tryd.prog 143 (.nilFunc) 1 8 := ⟨by kernel_rfl⟩
instance : Agg Tryd.prog 144 false := ⟨_, Tryd.underlying144, rfl⟩
instance : Inf Tryd.prog 144 (.nilFunc) 1 8 := ⟨by kernel_rfl⟩
instance : Agg Tryd.prog 145 false := ⟨_, Tryd.underlying145, rfl⟩
instance : Inf Tryd.prog 145 (.nilFunc) 1 8 := ⟨by kernel_rfl⟩
instance : Agg Tryd.prog 148 false := ⟨_, Tryd.underlying148, rfl⟩
instance : Inf Tryd.prog 148 (.nilFunc) 1 8 := ⟨by kernel_rfl⟩
instance : Agg Tryd.prog 149 false := ⟨_, Tryd.underlying149, rfl⟩
instance : Inf Tryd.prog 149 (.nilFunc) 1 8 := ⟨by kernel_rfl⟩
instance : Agg Tryd.prog 150 false := ⟨_, Tryd.underlying150, rfl⟩
instance : Inf Tryd.prog 150 (.nilFunc) 1 8 := ⟨by kernel_rfl⟩
instance : Agg Tryd.prog 152 false := ⟨_, Tryd.underlying152, rfl⟩
instance : Inf Tryd.prog 152 (.nilFunc) 1 8 := ⟨by kernel_rfl⟩
instance : Agg Tryd.prog 153 false := ⟨_, Tryd.underlying153, rfl⟩
instance : Inf Tryd.prog 153 (.nilFunc) 1 8 := ⟨by kernel_rfl⟩
instance : Agg Tryd.prog 154 false := ⟨_, Tryd.underlying154, rfl⟩
instance : Inf Tryd.prog 154 (.nilFunc) 1 8 := ⟨by kernel_rfl⟩
instance : Agg Tryd.prog 155 false := ⟨_, Tryd.underlying155, rfl⟩
instance : Inf Tryd.prog 155 (.nilFunc) 1 8 := ⟨by kernel_rfl⟩
instance : Agg Tryd.prog 156 false := ⟨_, Tryd.underlying156, rfl⟩
instance : Inf Tryd.prog 156 (.nilFunc) 1 8 := ⟨by kernel_rfl⟩
instance : Agg Tryd.prog 158 false := ⟨_, Tryd.underlying158, rfl⟩
instance : Inf Tryd.prog 158 (.nilFunc) 1 8 := ⟨by kernel_rfl⟩
instance : Agg Tryd.prog 160 false := ⟨_, Tryd.underlying160, rfl⟩
instance : Inf Tryd.prog 160 (.nilFunc) 1 8 := ⟨by kernel_rfl⟩
instance : Agg Tryd.prog 162 false := ⟨_, Tryd.underlying162, rfl⟩
instance : Inf Tryd.prog 162 (.nilFunc) 1 8 := ⟨by kernel_rfl⟩
instance : Agg Tryd.prog 167 false := ⟨_, Tryd.underlying167, rfl⟩
instance : Inf Tryd.prog 167 (.nilFunc) 1 8 := ⟨by kernel_rfl⟩
instance : Agg Tryd.prog 176 false := ⟨_, Tryd.underlying176, rfl⟩
instance : Inf Tryd.prog 176 (.nilFunc) 1 8 := ⟨by kernel_rfl⟩
instance : Agg Tryd.prog 179 false := ⟨_, Tryd.underlying179, rfl⟩
instance : Inf Tryd.prog 179 (.nilFunc) 1 8 := ⟨by kernel_rfl⟩
instance : Agg Tryd.prog 187 false := ⟨_, Tryd.underlying187, rfl⟩
instance : Inf Tryd.prog 187 (.nilFunc) 1 8 := ⟨by kernel_rfl⟩
instance : Agg Tryd.prog 190 false := ⟨_, Tryd.underlying190, rfl⟩
instance : Inf Tryd.prog 190 (.nilFunc) 1 8 := ⟨by kernel_rfl⟩
end Go.Proofs.YtcdogceabkpnmaaDoor

/-
  General steps: what is skipped, what is written, loops over functions (out of several texts).
-/
set_option linter.unusedSimpArgs false
set_option linter.unusedVariables false
set_option linter.unnecessarySimpa false
namespace Go.Sv
open Go Go.RowKit
/-- a guarded operation whose guard says no -/
theorem wlskipg {P : Program} {n : Nat} {ds : Ctx} {ops : Array Oper} {Q : Exit → Ctx → Env → World → Prop} {rest : List Oper} {σ : GE} {w : World} {d : Nat} {op : Op} {ty : TypeId} {pos : String} {af : Array Edge} {j dj : Nat} {want b c : Bool} (v : Value)
    (h : WL P n ds ops Q rest (real (updG σ d ⟨v, false⟩)) w)
    (hj : (ops[j]?).bind (·.dst) = some dj := by rfl) (hσ : σ dj = ⟨.bool c, b⟩ := by rfl) (hgt : (b && (c == want)) = false) :
    WL P n ds ops Q (⟨some d, op, ty, pos, af, some (j, want)⟩ :: rest) (real σ) w := by
  have hw := wanted_real (ops := ops) (o := ⟨some d, op, ty, pos, af, some (j, want)⟩) rfl hj hσ
  rw [hgt] at hw
  refine WL_skip hw ?_
  rw [← real_upd] at h
  exact h
/-- all blocks of a list as they were -/
def pKeep (w1 : World) (F : List Nat) : Plot where
  foot := F.filter fun b => decide (b < w1.heap.size)
  ok w := ∀ b ∈ F, b < w1.heap.size → w.heap[b]? = w1.heap[b]?
  view := (none, [])
  loc _ _ h hb := fun b hF hlt => (hb b (List.mem_filter.2 ⟨hF, by simpa using hlt⟩)).trans (h b hF hlt)
  lt w h x hx := by
    obtain ⟨h1, h2⟩ := List.mem_filter.1 hx
    have h3 : x < w1.heap.size := by simpa using h2
    have h4 := h x h1 h3
    rw [Array.getElem?_eq_getElem h3] at h4
    exact (Array.getElem?_eq_some_iff.1 h4).1
  sg _ _ := .inl rfl
def feet (cs : List Plot) : List Nat := cs.flatMap Plot.foot
/-- the blocks that belong to no piece -/
def others (w0 w1 : World) (cs : List Plot) : List Nat := (List.range w1.heap.size).filter fun x => decide (w0.heap.size ≤ x) && !(decide (x ∈ feet cs))
section
variable {w0 w1 w2 w w' : World} {cs ds : List Plot} {B : Nat}
theorem Sep.keep (h : Sep w0 w1 cs) : Sep w0 w1 (pKeep w1 (others w0 w1 cs) :: cs) := by
  refine ⟨h.frm, ?_, ?_, ?_⟩
  · intro c hc
    rcases List.mem_cons.1 hc with rfl | hc
    · exact fun _ _ _ => rfl
    · exact h.ok c hc
  · intro c hc x hx
    rcases List.mem_cons.1 hc with rfl | hc
    · have := (List.mem_filter.1 (List.mem_filter.1 hx).1).2
      simp only [Bool.and_eq_true, decide_eq_true_eq] at this
      exact this.1
    · exact h.low c hc x hx
  · rw [List.pairwise_cons]
    refine ⟨fun c hc x hx hx' => ?_, h.apart⟩
    have := (List.mem_filter.1 (List.mem_filter.1 hx).1).2
    simp only [Bool.and_eq_true, Bool.not_eq_true', decide_eq_false_iff_not] at this
    exact this.2 (List.mem_flatMap.2 ⟨c, hc, hx'⟩)
theorem Sep.keep1 (h : Sep w0 w1 cs) : ∃ kp : Plot, kp = pKeep w1 (others w0 w1 cs) ∧ Sep w0 w1 (kp :: cs) := ⟨_, rfl, h.keep⟩
/-- .. then only the pieces were written -/
theorem Sep.kept (h : Sep w0 w1 cs) (h2 : Sep w0 w2 ds) (hk : pKeep w1 (others w0 w1 cs) ∈ ds) (hsz : w1.heap.size ≤ w2.heap.size) : Le (feet cs) w1 w2 := by
  refine ⟨h2.frm.os.trans h.frm.os.symm, h2.frm.tape.trans h.frm.tape.symm, h2.frm.output.trans h.frm.output.symm, hsz, fun k hk1 hk2 => ?_⟩
  rcases Nat.lt_or_ge k w0.heap.size with h3 | h3
  · rw [h2.frm.block k h3, h.frm.block k h3]
  · exact h2.ok _ hk k (List.mem_filter.2 ⟨List.mem_range.2 hk1, by simp [h3, hk2]⟩) hk1
theorem Sep.same (h : Sep w0 w1 cs) (hs : Same B w1 w2) (h0 : w0.heap.size ≤ B) (hB : ∀ x ∈ feet cs, x < B) : Sep w0 w2 cs :=
  ⟨⟨hs.os.trans h.frm.os, hs.tape.trans h.frm.tape, hs.output.trans h.frm.output, Nat.le_trans h0 hs.size, fun k hk => (hs.block k (Nat.lt_of_lt_of_le hk h0)).trans (h.frm.block k hk)⟩,
    fun c hc => c.loc w1 w2 (h.ok c hc) fun x hx => hs.block x (hB x (List.mem_flatMap.2 ⟨c, hc, hx⟩)), h.low, h.apart⟩
theorem Same.mono {B B' : Nat} (h : Same B w w') (hb : B' ≤ B) : Same B' w w' := ⟨h.os, h.tape, h.output, Nat.le_trans hb h.size, fun k hk => h.block k (Nat.lt_of_lt_of_le hk hb)⟩
end
def colls (Ds : List Nat) : List Deferred := Ds.map fun D => { target := .collected D, args := #[] }
theorem loop_fam {P : Program} {n : Nat} {fn : FuncId} {dd : List Deferred} {σ : GE} {ps : List Tmp} {a b : Code} {D l : Nat} {w : World} (hL : LoopAt w l (recOf P n fn dd σ ps a b D .ready none)) : ∃ rc : LoopState → Option Code → Loop, rc = recOf P n fn dd σ ps a b D ∧ LoopAt w l (rc .ready none) := ⟨_, rfl, hL⟩
theorem Sep.feet_lt {w0 w : World} {cs : List Plot} (h : Sep w0 w cs) : ∀ x ∈ feet cs, x < w.heap.size := fun x hx => by
  obtain ⟨c, hc, hx⟩ := List.mem_flatMap.1 hx
  exact h.lt hc x hx
/-- a guarded operation whose guard says yes -/
theorem wlgt {P : Program} {n : Nat} {ds : Ctx} {ops : Array Oper} {Q : Exit → Ctx → Env → World → Prop} {rest : List Oper} {σ : GE} {w w' : World} {d : Nat} {op : Op} {ty : TypeId} {pos : String} {af : Array Edge} {j dj : Nat} {want b c : Bool} {v : Value}
    (hy : Y P (real σ) ⟨some d, op, ty, pos, af, some (j, want)⟩ w v w') (h : WL P n ds ops Q rest (real (updG σ d ⟨v, true⟩)) w')
    (hj : (ops[j]?).bind (·.dst) = some dj := by rfl) (hσ : σ dj = ⟨.bool c, b⟩ := by rfl) (hgt : (b && (c == want)) = true) :
    WL P n ds ops Q (⟨some d, op, ty, pos, af, some (j, want)⟩ :: rest) (real σ) w := by
  have hw := wanted_real (ops := ops) (o := ⟨some d, op, ty, pos, af, some (j, want)⟩) rfl hj hσ
  rw [hgt] at hw
  refine WL_want hw hy ?_
  rw [← real_upd] at h
  exact h
end Go.Sv

/-
  A scope in which the run jumps back to its label, once.
-/
set_option linter.unusedSimpArgs false
set_option linter.unusedVariables false
set_option linter.unnecessarySimpa false
namespace Go.Sv
open Go Go.RowKit
/-- what a jump leaves -/
def jmpq (l : Nat) (c : Ctx) (K : Env → World → Prop) (Q : Exit → Ctx → Env → World → Prop) : Exit → Ctx → Env → World → Prop
  | .goto l', c', σ, w => l' = l ∧ c' = c ∧ K σ w
  | e, c', σ, w => Q e c' σ w
section
variable {P : Program} {n l : Nat} {ds : Ctx} {Q : Exit → Ctx → Env → World → Prop} {K : Ctx → Env → World → Prop} {L : Env → World → Prop} {σ : Env} {w : World} {c rest : Code}
end
/-- a cut behind a piece of code that stands in a block -/
theorem wcutj {P : Program} {n i : Nat} {ds : Ctx} {K : Ctx → Env → World → Prop} {Q : Exit → Ctx → Env → World → Prop} {σ : Env} {w : World} {a : Code} {X : Type} (sl : X → List (Nat × Value)) (I : X → World → Prop)
    (ha : WC P n ds a (blk i (thl ds (fun σ w => ∃ x, Has σ (sl x) ∧ I x w) Q)) σ w) (hb : ∀ x w (ρ : GE), I x w → K ds (real (updGL ρ (sl x))) w) : WC P n ds a (blk i (thn K Q)) σ w := by
  refine WC_mono ha ?_
  have hn : ∀ c' σ' w', thl ds (fun σ w => ∃ x, Has σ (sl x) ∧ I x w) Q .normal c' σ' w' → thn K Q .normal c' σ' w' := by
    intro c' σ' w' h
    unfold thl at h
    unfold thn
    obtain ⟨rfl, x, h1, h2⟩ := h
    have := hb x w' (lif σ') h2
    rw [← real_updL, updL_has h1] at this
    exact this
  intro e c' σ' w' h
  unfold blk at h ⊢
  cases e with
  | normal => exact hn _ _ _ h
  | exit j =>
    dsimp only at h ⊢
    cases hj : Nat.beq j i with
    | true => rw [hj] at h; exact hn _ _ _ h
    | false => rw [hj] at h; unfold thl at h; unfold thn; exact h
  | _ => unfold thl at h; unfold thn; exact h
theorem Sep.asRow {w0 w : World} {b size n : Nat} {l : List Value} {cs : List Plot} (h : Sep w0 w (pOwn b l :: cs)) (hl : l.length = n * size) (hn : n ≤ 9223372036854775807) : Sep w0 w (pRow size (pb b) n n l :: cs) :=
  h.turn (c' := pRow size (pb b) n n l) 0 rfl (fun h => Row.of_own h hl hn) fun _ hx => hx
theorem Sep.nilRow {w0 w : World} {cs : List Plot} (h : Sep w0 w cs) (size : Nat) : Sep w0 w (pRow size none 0 0 [] :: cs) := h.push (Frm.refl w) (Row.nil w size) (by simp [pRow, rb])
attribute [irreducible] jmpq
end Go.Sv

/-
  Package dom, selectors: the reader, byte by byte: blanks, takes, name, must.
-/
set_option linter.unusedSimpArgs false
set_option linter.unusedVariables false
set_option linter.unnecessarySimpa false
namespace Go.Proofs.YtcdogceabkpnmaaDoor
open Go Go.Sv Go.RowKit

theorem dBlank_ok (c : Nat) (w : World) : PureC Tryd.prog 87 #[byt c] w (.bool (blN c)) := by
  refine enter (l := [byt c]) Tryd.func87 rfl Tryd.ntmps87 (by kernel_rfl) rfl ?_
  refine sgo ?_
  (first | refine fp1 (.inl rfl) rfl rfl ?_ | refine fp2 (.inl rfl) rfl rfl rfl ?_ | refine fp3 (.inl rfl) rfl rfl rfl rfl ?_ | refine fp0 (.inr rfl) rfl ?_ | refine fp0 (.inl rfl) rfl ?_ | refine fp1 (.inr rfl) rfl rfl ?_); refine ⟨?_, by (first | exact Frm.refl _ | assumption | exact Go.Sv.Sep.frm (by assumption) | (refine Frm.trans ?_ (by assumption); first | exact Frm.refl _ | assumption))⟩; (try simp only [realB, rv_true, Nat.reduceBEq, cond_true, cond_false, entG, real_lif, updGL])
  refine congrArg Value.bool ?_
  unfold blN
  rw [Bool.eq_iff_iff]
  simp only [pkb_or, pkb_and, Bool.or_eq_true, Bool.and_eq_true, decide_eq_true_eq]
  omega
theorem rBlank_ok (c : Nat) (w : World) : PureC Tryd.prog 59 #[byt c] w (.bool (blN c)) := by
  refine enter (l := [byt c]) Tryd.func59 rfl Tryd.ntmps59 (by kernel_rfl) rfl ?_
  refine sgo ?_
  (first | refine fp1 (.inl rfl) rfl rfl ?_ | refine fp2 (.inl rfl) rfl rfl rfl ?_ | refine fp3 (.inl rfl) rfl rfl rfl rfl ?_ | refine fp0 (.inr rfl) rfl ?_ | refine fp0 (.inl rfl) rfl ?_ | refine fp1 (.inr rfl) rfl rfl ?_); refine ⟨?_, by (first | exact Frm.refl _ | assumption | exact Go.Sv.Sep.frm (by assumption) | (refine Frm.trans ?_ (by assumption); first | exact Frm.refl _ | assumption))⟩; (try simp only [realB, rv_true, Nat.reduceBEq, cond_true, cond_false, entG, real_lif, updGL])
  refine congrArg Value.bool ?_
  unfold blN
  rw [Bool.eq_iff_iff]
  simp only [pkb_or, pkb_and, Bool.or_eq_true, Bool.and_eq_true, decide_eq_true_eq]
  omega
theorem nameByte_ok (c : Nat) (w : World) : PureC Tryd.prog 91 #[byt c] w (.bool (decide (97 ≤ c ∧ c ≤ 122 ∨ 65 ≤ c ∧ c ≤ 90 ∨ 48 ≤ c ∧ c ≤ 57 ∨ c = 45 ∨ c = 95))) := by
  refine enter (l := [byt c]) Tryd.func91 rfl Tryd.ntmps91 (by kernel_rfl) rfl ?_
  refine sgo ?_
  (first | refine fp1 (.inl rfl) rfl rfl ?_ | refine fp2 (.inl rfl) rfl rfl rfl ?_ | refine fp3 (.inl rfl) rfl rfl rfl rfl ?_ | refine fp0 (.inr rfl) rfl ?_ | refine fp0 (.inl rfl) rfl ?_ | refine fp1 (.inr rfl) rfl rfl ?_); refine ⟨?_, by (first | exact Frm.refl _ | assumption | exact Go.Sv.Sep.frm (by assumption) | (refine Frm.trans ?_ (by assumption); first | exact Frm.refl _ | assumption))⟩; (try simp only [realB, rv_true, Nat.reduceBEq, cond_true, cond_false, entG, real_lif, updGL])
  refine congrArg Value.bool ?_
  rw [Bool.eq_iff_iff]
  simp only [pkb_or, pkb_and, Bool.or_eq_true, Bool.and_eq_true, decide_eq_true_eq]
  omega
set_option maxHeartbeats 1000000 in
theorem blanks_ok (b : Nat) (s : List UInt8) (ok : Bool) (hb : s.length ≤ 16777216) (w0 w : World) (cs : List Plot) (hS : Sep w0 w (pOwn b [str s, .bool ok] :: cs)) :
    CallsR Tryd.prog 72 #[ptrAt (pb b) 0] w fun v w' => v = .bool (decide ((skB s).length < s.length)) ∧ Sep w0 w' (pOwn b [str (skB s), .bool ok] :: cs) := by
  refine enter (l := [ptrAt (pb b) 0]) Tryd.func72 rfl Tryd.ntmps72 (by kernel_rfl) rfl ?_
  refine sgo ?_
  refine wcloop (X := List UInt8) (fun t => [(0, ptrAt (pb b) 0), (3, int s.length)]) (fun t wr => skB t = skB s ∧ t.length ≤ s.length ∧ Sep w0 wr (pOwn b [str t, .bool ok] :: cs)) (fun t => t.length) s ⟨rfl, rfl, trivial⟩ ⟨rfl, Nat.le_refl _, hS⟩ ?_
  clear hS
  rintro t wr ρ ⟨hsk, hle, hS⟩
  cases t with
  | nil =>
    rw [← hsk]
    refine sgo ?_
    refine wlskipg (.bool false) ?_ (hgt := by simp)
    refine sgo ?_
    (first | refine fp1 (.inl rfl) rfl rfl ?_ | refine fp2 (.inl rfl) rfl rfl rfl ?_ | refine fp3 (.inl rfl) rfl rfl rfl rfl ?_ | refine fp0 (.inr rfl) rfl ?_ | refine fp0 (.inl rfl) rfl ?_ | refine fp1 (.inr rfl) rfl rfl ?_)
    refine ⟨?_, hS⟩
    simp only [realB, rv_true, Nat.reduceBEq, cond_true, cond_false, entG, real_lif, updGL]
    exact congrArg Value.bool (decide_eq_decide.2 (by rw [show skB [] = [] from rfl]; simp))
  | cons c r =>
    rw [skB_cons] at hsk
    rw [List.length_cons] at hle
    have hl1 : 1 ≤ (c :: r).length := by simp
    refine sgo ?_
    refine wlcallgp (vals := [byt c.toNat]) (fun _ => dBlank_ok c.toNat _) fun w1 hf1 => ?_
    replace hS := hS.grow hf1
    refine sgo ?_
    cases hB : blB c with
    | true =>
      rw [hB, if_pos rfl] at hsk
      rw [blB_N] at hB
      refine wcyes ?_ (ht := by rw [hB]; rfl)
      refine sgo ?_
      refine sst_str hS 0 fun w2 hS => ?_
      refine sgo ?_
      exact ⟨r, ⟨rfl, rfl, trivial⟩, ⟨hsk, by omega, hS⟩, by simp⟩
    | false =>
      rw [hB, if_neg Bool.false_ne_true] at hsk
      rw [blB_N] at hB
      rw [← hsk]
      refine wcno ?_ (ht := by rw [hB]; rfl)
      refine sgo ?_
      (first | refine fp1 (.inl rfl) rfl rfl ?_ | refine fp2 (.inl rfl) rfl rfl rfl ?_ | refine fp3 (.inl rfl) rfl rfl rfl rfl ?_ | refine fp0 (.inr rfl) rfl ?_ | refine fp0 (.inl rfl) rfl ?_ | refine fp1 (.inr rfl) rfl rfl ?_)
      refine ⟨?_, hS⟩
      simp only [realB, rv_true, Nat.reduceBEq, cond_true, cond_false, entG, real_lif, updGL]
      exact congrArg Value.bool (decide_eq_decide.2 (by omega))
set_option maxHeartbeats 1000000 in
theorem takes_ok (b : Nat) (s : List UInt8) (ok : Bool) (c : Nat) (hc : c < 256) (hb : s.length ≤ 16777216) (w0 w : World) (cs : List Plot) (hS : Sep w0 w (pOwn b [str s, .bool ok] :: cs)) :
    CallsR Tryd.prog 74 #[ptrAt (pb b) 0, byt c] w fun v w' => ∃ x, v = .bool x ∧ if x = true then ∃ r, s = UInt8.ofNat c :: r ∧ Sep w0 w' (pOwn b [str r, .bool ok] :: cs) else (∀ r, s ≠ UInt8.ofNat c :: r) ∧ Sep w0 w' (pOwn b [str s, .bool ok] :: cs) := by
  refine enter (l := [ptrAt (pb b) 0, byt c]) Tryd.func74 rfl Tryd.ntmps74 (by kernel_rfl) rfl ?_
  cases s with
  | nil =>
    refine sgo ?_
    refine wcyes ?_ (ht := by rfl)
    refine sgo ?_
    (first | refine fp1 (.inl rfl) rfl rfl ?_ | refine fp2 (.inl rfl) rfl rfl rfl ?_ | refine fp3 (.inl rfl) rfl rfl rfl rfl ?_ | refine fp0 (.inr rfl) rfl ?_ | refine fp0 (.inl rfl) rfl ?_ | refine fp1 (.inr rfl) rfl rfl ?_)
    exact ⟨false, rfl, (by simp), hS⟩
  | cons d r =>
    have hl1 : 1 ≤ (d :: r).length := by simp
    refine sgo ?_
    refine WC_cond rfl (fun hc => ?_) (fun hc => ?_)
    · refine sgo ?_
      (first | refine fp1 (.inl rfl) rfl rfl ?_ | refine fp2 (.inl rfl) rfl rfl rfl ?_ | refine fp3 (.inl rfl) rfl rfl rfl rfl ?_ | refine fp0 (.inr rfl) rfl ?_ | refine fp0 (.inl rfl) rfl ?_ | refine fp1 (.inr rfl) rfl rfl ?_)
      refine ⟨false, rfl, fun r' h => ?_, hS⟩
      injection h with h
      subst h
      rw [pkb_or] at hc
      have : (UInt8.ofNat c).toNat = c := by simp; omega
      simp [this] at hc
    · refine sgo ?_
      refine sst_str hS 0 fun w2 hS => ?_
      refine sgo ?_
      (first | refine fp1 (.inl rfl) rfl rfl ?_ | refine fp2 (.inl rfl) rfl rfl rfl ?_ | refine fp3 (.inl rfl) rfl rfl rfl rfl ?_ | refine fp0 (.inr rfl) rfl ?_ | refine fp0 (.inl rfl) rfl ?_ | refine fp1 (.inr rfl) rfl rfl ?_)
      refine ⟨true, rfl, r, ?_, hS⟩
      rw [pkb_or] at hc
      simp at hc
      have hc : d.toNat = c := by omega
      subst hc
      simp
set_option maxHeartbeats 2000000 in
theorem dName_ok (b : Nat) (s : List UInt8) (ok : Bool) (hb : s.length ≤ 16777216) (w0 w : World) (cs : List Plot) (hS : Sep w0 w (pOwn b [str s, .bool ok] :: cs)) :
    CallsR Tryd.prog 88 #[ptrAt (pb b) 0] w fun v w' => v = str (nmR s) ∧ Sep w0 w' (pOwn b [str (nmT s), .bool ok] :: cs) := by
  have hnl := nmR_le s
  refine enter (l := [ptrAt (pb b) 0]) Tryd.func88 rfl Tryd.ntmps88 (by kernel_rfl) rfl ?_
  refine sgo ?_
  refine wcutj (X := Unit) (fun _ => [(0, ptrAt (pb b) 0), (3, int (nmR s).length)]) (fun _ wr => Sep w0 wr (pOwn b [str s, .bool ok] :: cs)) ?_ ?_
  · refine wcloop (X := Nat) (fun n => [(0, ptrAt (pb b) 0), (3, int n)]) (fun n wr => n ≤ s.length ∧ nmR s = s.take n ++ nmR (s.drop n) ∧ Sep w0 wr (pOwn b [str s, .bool ok] :: cs)) (fun n => s.length - n) 0 ⟨rfl, rfl, trivial⟩ ⟨Nat.zero_le _, rfl, hS⟩ ?_
    clear hS
    rintro n wr ρ ⟨hns, hnm, hS⟩
    refine sgo ?_
    (show WC _ _ _ _ _ _ _; first | refine WC_dec rfl (fun hc => ?_) (fun hc => ?_) | refine WC_cond rfl (fun hc => ?_) (fun hc => ?_))
    · have hlt : n < s.length := by omega
      clear hc
      obtain ⟨c, hx⟩ : ∃ c, s[n]? = some c := ⟨_, List.getElem?_eq_getElem hlt⟩
      have hg : s[n]?.getD 0 = c := by rw [hx]; rfl
      refine sgo ?_
      simp only [hg]
      refine WC_cond rfl (fun hc => ?_) (fun hc => ?_)
      · have hB : nmB c = false := by
          simp only [pkb_or, pkb_and, Bool.or_eq_true, Bool.and_eq_true, decide_eq_true_eq] at hc
          exact decide_eq_false (by omega)
        rw [(nm_stop hx hB).1, List.append_nil] at hnm
        have hln : (nmR s).length = n := by rw [hnm]; simp; omega
        rw [hln]
        refine sgo ?_
        exact ⟨(), ⟨rfl, rfl, trivial⟩, hS⟩
      · have hB : nmB c = true := by
          simp only [pkb_or, pkb_and, Bool.or_eq_false_iff, Bool.and_eq_false_iff, decide_eq_false_iff_not] at hc
          exact decide_eq_true (by omega)
        rw [(nm_more hx hB).1] at hnm
        refine sgo ?_
        refine ⟨n + 1, ⟨rfl, rfl, trivial⟩, ⟨hlt, ?_, hS⟩, by omega⟩
        rw [hnm, List.take_add_one, hx]
        simp
    · obtain rfl : n = s.length := by omega
      rw [(nm_end (Nat.le_refl _)).1, List.append_nil, List.take_length] at hnm
      rw [hnm]
      refine sgo ?_
      exact ⟨(), ⟨rfl, rfl, trivial⟩, hS⟩
  · clear hS
    rintro _ w1 ρ hS
    refine sgo ?_
    refine sst_str hS 0 fun w2 hS => ?_
    refine sgo ?_
    (first | refine fp1 (.inl rfl) rfl rfl ?_ | refine fp2 (.inl rfl) rfl rfl rfl ?_ | refine fp3 (.inl rfl) rfl rfl rfl rfl ?_ | refine fp0 (.inr rfl) rfl ?_ | refine fp0 (.inl rfl) rfl ?_ | refine fp1 (.inr rfl) rfl rfl ?_)
    rw [nm_drop] at hS
    refine ⟨?_, hS⟩
    simp only [realB, rv_true, Nat.reduceBEq, cond_true, cond_false, entG, real_lif, updGL]
    rw [nm_take]
set_option maxHeartbeats 1000000 in
theorem dMust_ok (b : Nat) (s : List UInt8) (ok : Bool) (hb : s.length ≤ 16777216) (w0 w : World) (cs : List Plot) (hS : Sep w0 w (pOwn b [str s, .bool ok] :: cs)) :
    CallsR Tryd.prog 89 #[ptrAt (pb b) 0] w fun v w' => v = str (nmR s) ∧ Sep w0 w' (pOwn b [str (nmT s), .bool (ok && !decide (nmR s = []))] :: cs) := by
  refine enter (l := [ptrAt (pb b) 0]) Tryd.func89 rfl Tryd.ntmps89 (by kernel_rfl) rfl ?_
  refine sgo ?_
  refine wlcall (dName_ok b s ok hb w0 w cs hS) ?_
  clear hS
  rintro _ w1 ⟨rfl, hS⟩
  generalize nmR s = m at *
  generalize nmT s = t at *
  refine sgo ?_
  (show WC _ _ _ _ _ _ _; first | refine WC_dec rfl (fun hc => ?_) (fun hc => ?_) | refine WC_cond rfl (fun hc => ?_) (fun hc => ?_))
  · rw [decide_eq_true hc, Bool.not_true, Bool.and_false]
    refine sgo ?_
    refine sst_bool hS 0 fun w2 hS => ?_
    refine sgo ?_
    (first | refine fp1 (.inl rfl) rfl rfl ?_ | refine fp2 (.inl rfl) rfl rfl rfl ?_ | refine fp3 (.inl rfl) rfl rfl rfl rfl ?_ | refine fp0 (.inr rfl) rfl ?_ | refine fp0 (.inl rfl) rfl ?_ | refine fp1 (.inr rfl) rfl rfl ?_)
    exact ⟨rfl, hS⟩
  · rw [decide_eq_false hc, Bool.not_false, Bool.and_true]
    refine sgo ?_
    (first | refine fp1 (.inl rfl) rfl rfl ?_ | refine fp2 (.inl rfl) rfl rfl rfl ?_ | refine fp3 (.inl rfl) rfl rfl rfl rfl ?_ | refine fp0 (.inr rfl) rfl ?_ | refine fp0 (.inl rfl) rfl ?_ | refine fp1 (.inr rfl) rfl rfl ?_)
    exact ⟨rfl, hS⟩
/-! ## the document's -/
set_option maxHeartbeats 2000000 in
theorem word_ok (s : List UInt8) (at_ : Nat) (ha : at_ ≤ s.length) (hb : s.length ≤ 16777216) (w : World) : PureC Tryd.prog 76 #[str s, int at_] w (.tuple #[str (nmR (s.drop at_)), int (at_ + (nmR (s.drop at_)).length : Nat)]) := by
  have hnl := nmR_le (s.drop at_)
  rw [List.length_drop] at hnl
  refine enter (l := [str s, int at_]) Tryd.func76 rfl Tryd.ntmps76 (by kernel_rfl) rfl ?_
  refine sgo ?_
  refine wcloop (X := Nat) (fun n => [(0, str s), (1, int at_), (6, int n)]) (fun n wr => n ≤ s.length ∧ at_ ≤ n ∧ nmR (s.drop at_) = (s.drop at_).take (n - at_) ++ nmR (s.drop n) ∧ Frm w wr) (fun n => s.length - n) at_ ⟨rfl, rfl, rfl, trivial⟩ ⟨ha, Nat.le_refl _, by simp, Frm.refl _⟩ ?_
  rintro n wr ρ ⟨hns, hna, hnm, hf⟩
  rcases Nat.lt_or_ge n s.length with hlt | hge
  · obtain ⟨c, hx⟩ : ∃ c, s[n]? = some c := ⟨_, List.getElem?_eq_getElem hlt⟩
    have hg : s[n]?.getD 0 = c := by rw [hx]; rfl
    refine sgo ?_
    simp only [hg]
    refine wlcallgp (vals := [byt c.toNat]) (fun _ => nameByte_ok c.toNat _) fun w1 hf1 => ?_
    replace hf := hf.trans hf1
    refine sgo ?_
    cases hB : nmB c with
    | true =>
      refine wcyes ?_ (ht := by rw [pkb_and]; simp; exact ⟨hlt, of_decide_eq_true hB⟩)
      rw [(nm_more hx hB).1] at hnm
      refine sgo ?_
      refine ⟨n + 1, ⟨rfl, rfl, rfl, trivial⟩, ⟨hlt, by omega, ?_, hf⟩, by omega⟩
      rw [hnm, show n + 1 - at_ = (n - at_) + 1 by omega, List.take_add_one, List.getElem?_drop, show at_ + (n - at_) = n by omega, hx]
      simp
    | false =>
      refine wcno ?_ (ht := by rw [pkb_and]; simp; intro _; have := of_decide_eq_false hB; omega)
      rw [(nm_stop hx hB).1, List.append_nil] at hnm
      have hln : (nmR (s.drop at_)).length = n - at_ := by rw [hnm]; simp; omega
      refine sgo ?_
      (first | refine fp1 (.inl rfl) rfl rfl ?_ | refine fp2 (.inl rfl) rfl rfl rfl ?_ | refine fp3 (.inl rfl) rfl rfl rfl rfl ?_ | refine fp0 (.inr rfl) rfl ?_ | refine fp0 (.inl rfl) rfl ?_ | refine fp1 (.inr rfl) rfl rfl ?_); refine ⟨?_, by (first | exact Frm.refl _ | assumption | exact Go.Sv.Sep.frm (by assumption) | (refine Frm.trans ?_ (by assumption); first | exact Frm.refl _ | assumption))⟩; (try simp only [realB, rv_true, Nat.reduceBEq, cond_true, cond_false, entG, real_lif, updGL])
      rw [hln, hnm, show at_ + (n - at_) = n by omega]
  · obtain rfl : n = s.length := by omega
    rw [(nm_end (Nat.le_refl _)).1, List.append_nil] at hnm
    have hln : (nmR (s.drop at_)).length = s.length - at_ := by rw [hnm]; simp
    refine sgo ?_
    refine wlskipg (.bool false) ?_ (hgt := by simp)
    refine sgo ?_
    refine wcno ?_ (ht := by rw [pkb_and]; simp)
    refine sgo ?_
    (first | refine fp1 (.inl rfl) rfl rfl ?_ | refine fp2 (.inl rfl) rfl rfl rfl ?_ | refine fp3 (.inl rfl) rfl rfl rfl rfl ?_ | refine fp0 (.inr rfl) rfl ?_ | refine fp0 (.inl rfl) rfl ?_ | refine fp1 (.inr rfl) rfl rfl ?_); refine ⟨?_, by (first | exact Frm.refl _ | assumption | exact Go.Sv.Sep.frm (by assumption) | (refine Frm.trans ?_ (by assumption); first | exact Frm.refl _ | assumption))⟩; (try simp only [realB, rv_true, Nat.reduceBEq, cond_true, cond_false, entG, real_lif, updGL])
    rw [hln, hnm, show at_ + (s.length - at_) = s.length by omega]
end Go.Proofs.YtcdogceabkpnmaaDoor

/-
  Regions that draw their order, whatever they make: by a plan that says of each operation what it yields, makes and takes.
-/
set_option linter.unusedSimpArgs false
set_option linter.unusedVariables false
set_option linter.unnecessarySimpa false
namespace Go.Sv
open Go Go.RowKit

theorem Sep.perm {w0 w : World} {cs ds : List Plot} (h : Sep w0 w cs) (hp : cs.Perm ds) : Sep w0 w ds :=
  ⟨h.frm, fun c hc => h.ok c (hp.mem_iff.2 hc), fun c hc => h.low c (hp.mem_iff.2 hc), hp.pairwise h.apart fun h x hx hx' => h x hx' hx⟩
theorem filter_insert {α : Type} [DecidableEq α] {k : α} {q : α → Bool} (hq : q k = false) : ∀ {l : List α}, l.Nodup → k ∈ l → (l.filter fun j => decide (j = k) || q j).Perm (k :: l.filter q)
  | [], _, h => by cases h
  | x :: l, hn, hm => by
    rw [List.nodup_cons] at hn
    by_cases e : x = k
    · subst e
      have hrest : l.filter (fun j => decide (j = x) || q j) = l.filter q := by
        refine List.filter_congr fun j hj => ?_
        have : j ≠ x := fun h => hn.1 (h ▸ hj)
        simp [this]
      simp only [List.filter_cons, decide_true, Bool.true_or, if_true, hq, Bool.false_eq_true, if_false, hrest]
      exact List.Perm.refl _
    · have hm' : k ∈ l := by
        rcases List.mem_cons.1 hm with h | h
        · exact absurd h.symm e
        · exact h
      have ih := filter_insert hq hn.2 hm'
      simp only [List.filter_cons, decide_eq_false e, Bool.false_or]
      cases q x with
      | false => simpa using ih
      | true => simpa using (ih.cons x).trans (List.Perm.swap k x _)

structure Plan (D : Type) where
  val : Nat → D → Value
  pl : Nat → D → List Plot
  con : Nat → Option Nat
  fact : Nat → (Nat → D) → Prop
section
variable {D : Type}
def setD (a : Nat → D) (k : Nat) (d : D) : Nat → D := fun j => if j = k then d else a j
theorem setD_same (a : Nat → D) (k : Nat) (d : D) : setD a k d k = d := if_pos rfl
theorem setD_ne (a : Nat → D) {k j : Nat} (d : D) (h : j ≠ k) : setD a k d j = a j := if_neg h
def Plan.live (p : Plan D) (L : Nat → Bool) (j : Nat) : Bool := L j && (match p.con j with | some c => !L c | none => true)
def Plan.mem (p : Plan D) (n : Nat) (L : Nat → Bool) (a : Nat → D) : List Plot := ((List.range n).filter (p.live L)).flatMap fun j => p.pl j (a j)
/-- what operation k takes -/
def Plan.takes (p : Plan D) (n k : Nat) (a : Nat → D) : List Plot := ((List.range n).filter fun j => decide (p.con j = some k)).flatMap fun j => p.pl j (a j)
def Plan.S (p : Plan D) (w0 : World) (cs : List Plot) (σ0 : Env) (ops : List Oper) (L : Nat → Bool) (σ : Env) (w : World) : Prop :=
  (∀ s, (∀ (k : Nat) (o : Oper), ops[k]? = some o → o.dst ≠ some s) → σ s = σ0 s) ∧
  ∃ a : Nat → D, (∀ (k : Nat) (o : Oper), ops[k]? = some o → L k = true → (∀ d, o.dst = some d → σ d = p.val k (a k)) ∧ p.fact k a) ∧ Sep w0 w (p.mem ops.length L a ++ cs)
/-- how operation k goes, by the plan -/
def Plan.Rule (p : Plan D) (P : Program) (w0 : World) (cs : List Plot) (σ0 : Env) (ops : List Oper) (k : Nat) (o : Oper) : Prop :=
  ∀ (a : Nat → D) (σ : Env) (w : World) (rest : List Plot), (∀ s, (∀ (k : Nat) (o : Oper), ops[k]? = some o → o.dst ≠ some s) → σ s = σ0 s) →
    (∀ (j : Nat) (oj : Oper), bindsOn o j = true → ops[j]? = some oj → (∀ d, oj.dst = some d → σ d = p.val j (a j)) ∧ p.fact j a) → Sep w0 w (p.takes ops.length k a ++ (cs ++ rest)) →
    (Region.wanted o (yl ops.toArray σ) = true ∧ comes P (fun v w' => ∃ d, v = p.val k d ∧ p.fact k (setD a k d) ∧ Sep w0 w' (p.pl k d ++ (cs ++ rest))) ((execOp (evl σ) o).run P w)) ∨
    (Region.wanted o (yl ops.toArray σ) = false ∧ ∃ d, undef = p.val k d ∧ p.fact k (setD a k d) ∧ Sep w0 w (p.pl k d ++ (cs ++ rest)))
def Plan.Rules (p : Plan D) (P : Program) (w0 : World) (cs : List Plot) (σ0 : Env) (ops : List Oper) : Nat → List Oper → Prop
  | _, [] => True
  | k, o :: l => p.Rule P w0 cs σ0 ops k o ∧ p.Rules P w0 cs σ0 ops (k + 1) l
/-- the plan's book-keeping: whoever takes waits; targets differ -/
def planB (con : Nat → Option Nat) (ops : List Oper) : Bool :=
  (List.range ops.length).all fun j => (match con j with
    | some c => decide (c < ops.length) && (match ops[c]? with | some oc => bindsOn oc j | none => false)
    | none => true) && (List.range ops.length).all fun i => decide (i = j) || (match ops[i]?, ops[j]? with
      | some oi, some oj => (match oi.dst with | some d => decide (oj.dst ≠ some d) | none => true)
      | _, _ => true)
theorem comes_mono {P : Program} {T T' : Value → World → Prop} (h : ∀ v w, T v w → T' v w) : ∀ {r : Result Next}, comes P T r → comes P T' r := by
  intro r hr
  unfold comes at *
  split at hr
  · exact h _ _ hr
  · exact h _ _ hr
  · exact Calls.mono hr fun e w ⟨v, he, hv⟩ => ⟨v, he, h _ _ hv⟩
  · exact hr.elim
end
end Go.Sv
namespace Go.Sv
open Go Go.RowKit
theorem frameOf {σ : Env} (sl : List (Nat × Value)) (h : Has σ sl) : σ = real (updGL (lif σ) sl) := by rw [← real_updL, updL_has h]
theorem notDst {ops : List Oper} {s : Nat} (h : (ops.all fun o => decide (o.dst ≠ some s)) = true) : ∀ (k : Nat) (o : Oper), ops[k]? = some o → o.dst ≠ some s := fun k o hk =>
  of_decide_eq_true (List.all_eq_true.1 h o (List.mem_of_getElem? hk))
section
variable {D : Type} {P : Program} {w0 w w' : World} {cs rest : List Plot} {σ : Env} {d : Option Tmp} {op : Op} {ty : TypeId} {pos : String} {af : Array Edge} {v : Value} {k : Nat} {ops : Array Oper} {T : Value → World → Prop}
/-- an operation of a plan, that has no guard -/
theorem rule_y {B : Prop} {o : Oper} (hy : Y P σ o w v w') (hT : T v w') (hg : o.guard = none := by rfl) :
    (Region.wanted o (yl ops σ) = true ∧ comes P T ((execOp (evl σ) o).run P w)) ∨ B := .inl ⟨by simp [Region.wanted, hg], comes_of_Y hy hT⟩
theorem rule_call {B : Prop} {f : FuncId} [hf : Fnc P f] {args : List Operand} {ats : Array TypeId} {vals : List Value} {R : Value → World → Prop} (hc : CallsR P f vals.toArray w R) (hT : ∀ v w', R v w' → T v w') (ha : args.map (evl σ) = vals) :
    (Region.wanted (⟨d, .call ⟨.value (.func f), args.toArray, ats⟩, ty, pos, af, none⟩ : Oper) (yl ops σ) = true ∧ comes P T ((execOp (evl σ) ⟨d, .call ⟨.value (.func f), args.toArray, ats⟩, ty, pos, af, none⟩).run P w)) ∨ B := by
  refine .inl ⟨by simp [Region.wanted], ?_⟩
  rw [run_call_func]
  have : (args.toArray.map (evl σ)) = vals.toArray := by rw [← ha]; simp
  rw [this]
  exact Calls.mono hc fun e w'' ⟨v, he, hv⟩ => ⟨v, he, hT v w'' hv⟩
variable {t t' e e' : TypeId} {x y : Operand} {zv u : Value} {size bytes i m n c c' : Nat} {p q : Option Addr} {xs news vs : List Value}
/-- a slice written out, of one struct: its piece -/
theorem y_bs1 [hu : Und P t (.slice e)] [hi : Inf P e zv size bytes] (hS : Sep w0 w cs) (hx : evl σ x = .agg ⟨vs⟩) (hv : vs.length = size) (hz : zv.cells.size = size) (hsz : 0 < size) (hm : size ≤ 16777216) :
    ∃ b w', Y P σ ⟨d, .buildSlice t 1 #[(0, x)], ty, pos, af, none⟩ w (.slice (pb b) 1 1) w' ∧ Sep w0 w' (pOwn b vs :: cs) := by
  refine ⟨w.heap.size, w.alloc (.cells ⟨vs⟩ e), Y.val ?_, hS.push (frm_alloc _ _) (own_alloc _ _ _) (by simp [pOwn])⟩
  simp only [execOp, List.map_toArray, List.map_cons, List.map_nil, hx, Sem.run_bind]
  rw [run_buildSlice1 (P := P) (t := t) (e := e) hz (by simpa [Value.cells] using hv) hsz hm]
  rfl
/-- append to the i-th piece -/
theorem y_app [hu : Und P t (.slice e)] [hu' : Und P t' (.slice e')] [hi : Inf P e zv size bytes] (hS : Sep w0 w cs) (i : Nat) (hs : Sg w q news) (hc : cs[i]? = some (pRow size p m c xs)) (hx : evl σ x = .slice p m c) (hy : evl σ y = .slice q n c') (hl : news.length = n * size)
    (h1 : ∀ u ∈ news, u.oneCell' = true) (hz : zv.cells.size = size) (hsz : 0 < size) (hb : (m + n) * bytes ≤ 140737488355328 ∧ m + n ≤ 9223372036854775807) :
    ∃ p' c2 w', Y P σ ⟨d, .call ⟨.builtin .append, #[x, y], #[t, t']⟩, ty, pos, af, none⟩ w (.slice p' (m + n) c2) w' ∧ Sep w0 w' (cs.set i (pRow size p' (m + n) c2 (xs ++ news))) := by
  obtain ⟨p', c2, w', h2, h3, h4⟩ := run_append_row (P := P) (t := t) (tx := t') (ty := ty) (e := e) hz hsz (hS.row i hc) (src_of_sg (tx := t') (c := c') hs hl h1) hb.2 hb.1
  exact ⟨p', c2, w', run_append_op hx hy h2, hS.upd i hc h4 h3⟩
end
end Go.Sv

/-
  Package event: Close; slices.Backward.
-/
set_option linter.unusedSimpArgs false
set_option linter.unusedVariables false
set_option linter.unnecessarySimpa false
namespace Go.Proofs.YtcdogceabkpnmaaDoor
open Go Go.Sv Go.RowKit












































def closeE (n : List UInt8) : Ev := ⟨2, n, [], []⟩
/-- the events that close, in memory -/
def closeM (n : List UInt8) : EvM := ⟨closeE n, none, 0⟩
/-- what Open tells -/
def openS (k : Lk) : List (List UInt8) := if k.err = 0 then k.stack else []
end Go.Proofs.YtcdogceabkpnmaaDoor

/-
  Structs of texts, numbers and bools compared.
-/
set_option linter.unusedSimpArgs false
set_option linter.unusedVariables false
set_option linter.unnecessarySimpa false
namespace Go.Sv
open Go Go.RowKit
def plainB (P : Program) : List Field → Nat → List TypeDesc → Bool
  | [], _, [] => true
  | f :: fs, k, d :: ds => (f.name != "_") && (f.offset == k) && (match P.underlying f.type, d with
    | some .string, .string => true
    | some .bool, .bool => true
    | some (.int a), .int b => kEq a b
    | _, _ => false) && plainB P fs (k + 1) ds
  | _, _, _ => false
/-- a struct whose fields are one cell each: texts, bools, numbers -/
class PlainS (P : Program) (t : TypeId) (ds : outParam (List TypeDesc)) : Prop where
  ok : ∃ fs, P.underlying t = some (.struct fs) ∧ plainB P fs.toList 0 ds = true ∧ P.stoodInHeld t = false ∧ P.eqGuardType P.depth t = false
/-- are two structs the same? -/
def eqL : List TypeDesc → List Value → List Value → Option Bool
  | [], [], [] => some true
  | .string :: ds, .string ⟨⟨a⟩⟩ :: xs, .string ⟨⟨b⟩⟩ :: ys => match eqL ds xs ys with | some r => some (decide (a = b) && r) | none => none
  | .bool :: ds, .bool a :: xs, .bool b :: ys => match eqL ds xs ys with | some r => some (decide (a = b) && r) | none => none
  | .int k :: ds, .int k1 a :: xs, .int k2 b :: ys => match kEq k k1, kEq k k2, eqL ds xs ys with | true, true, some r => some (decide (a = b) && r) | _, _, _ => none
  | _, _, _ => none
section
variable {P : Program} {w : World}
variable {σ : Env} {d : Option Tmp} {ty t t' : TypeId} {pos : String} {af : Array Edge} {g : Option (Nat × Bool)} {x y : Operand} {ds : List TypeDesc} {xs ys : List Value} {r : Bool}
end
end Go.Sv

/- This seat's plain structs as instances (made by a program of ours). -/
namespace Go.Proofs.YtcdogceabkpnmaaDoor
open Go Go.Sv
instance : PlainS Tryd.prog 52 [.string, .string] := ⟨_, Tryd.underlying52, by kernel_rfl, by kernel_rfl, by kernel_rfl⟩
instance : PlainS Tryd.prog 53 [.string, .string] := ⟨_, Tryd.underlying53, by kernel_rfl, by kernel_rfl, by kernel_rfl⟩
instance : PlainS Tryd.prog 100 [.string, .bool] := ⟨_, Tryd.underlying100, by kernel_rfl, by kernel_rfl, by kernel_rfl⟩
instance : PlainS Tryd.prog 101 [.string, .bool] := ⟨_, Tryd.underlying101, by kernel_rfl, by kernel_rfl, by kernel_rfl⟩
instance : PlainS Tryd.prog 114 [.int .i32, .int .i64, .int .i64, .bool] := ⟨_, Tryd.underlying114, by kernel_rfl, by kernel_rfl, by kernel_rfl⟩
instance : PlainS Tryd.prog 115 [.int .i32, .int .i64, .int .i64, .bool] := ⟨_, Tryd.underlying115, by kernel_rfl, by kernel_rfl, by kernel_rfl⟩
instance : PlainS Tryd.prog 123 [.int .i64, .int .i64, .int .i64] := ⟨_, Tryd.underlying123, by kernel_rfl, by kernel_rfl, by kernel_rfl⟩
instance : PlainS Tryd.prog 124 [.int .i64, .int .i64, .int .i64] := ⟨_, Tryd.underlying124, by kernel_rfl, by kernel_rfl, by kernel_rfl⟩
instance : PlainS Tryd.prog 146 [.string, .string, .bool, .bool] := ⟨_, Tryd.underlying146, by kernel_rfl, by kernel_rfl, by kernel_rfl⟩
instance : PlainS Tryd.prog 147 [.string, .string, .bool, .bool] := ⟨_, Tryd.underlying147, by kernel_rfl, by kernel_rfl, by kernel_rfl⟩
end Go.Proofs.YtcdogceabkpnmaaDoor

/-
  sieveref18: Same, Equal, Ends; sievelaw18: own, same.
-/
set_option linter.unusedSimpArgs false
set_option linter.unusedVariables false
set_option linter.unnecessarySimpa false
namespace Go.Proofs.YtcdogceabkpnmaaDoor
open Go Go.Sv Go.RowKit

theorem att_at {es : List At} {i : Nat} {x : At} (h : es[i]? = some x) : ((es.flatMap At.cells).drop (i * 2)).take 2 = x.cells := fm_seg At.len es h













































































































































































































































































end Go.Proofs.YtcdogceabkpnmaaDoor

/-
  sievelaw18: own; event: copied.
-/
set_option linter.unusedSimpArgs false
set_option linter.unusedVariables false
set_option linter.unnecessarySimpa false
namespace Go.Proofs.YtcdogceabkpnmaaDoor
open Go Go.Sv Go.RowKit

theorem att_one (es : List At) : ∀ u ∈ es.flatMap At.cells, u.oneCell' = true := by
  intro u hu
  obtain ⟨x, _, hx⟩ := List.mem_flatMap.1 hu
  simp only [At.cells, List.mem_cons, List.not_mem_nil, or_false] at hx
  rcases hx with rfl | rfl <;> rfl
end Go.Proofs.YtcdogceabkpnmaaDoor

/-
  sievelaw18: awake, EventNames.
-/
set_option linter.unusedSimpArgs false
set_option linter.unusedVariables false
set_option linter.unnecessarySimpa false
namespace Go.Proofs.YtcdogceabkpnmaaDoor
open Go Go.Sv Go.RowKit





def ex1 : List EvM := [⟨⟨1, [98], [], []⟩, none, 0⟩, ⟨⟨2, [105], [], []⟩, none, 0⟩]
def ex2 : List EvM := [⟨⟨3, [98, 114], [], []⟩, none, 0⟩]
end Go.Proofs.YtcdogceabkpnmaaDoor

/-
  Package event: Equal, Count, Text.
-/
set_option linter.unusedSimpArgs false
set_option linter.unusedVariables false
set_option linter.unnecessarySimpa false
namespace Go.Sv
open Go Go.RowKit
section
variable {P : Program} {w : World}
variable {σ : Env} {d : Option Tmp} {ty t t' el : TypeId} {pos : String} {af : Array Edge} {g : Option (Nat × Bool)} {x y : Operand} {zv : Value} {bytes : Nat}
end
end Go.Sv
namespace Go.Proofs.YtcdogceabkpnmaaDoor
open Go Go.Sv Go.RowKit







































































































































































































end Go.Proofs.YtcdogceabkpnmaaDoor

/-
  Package event: Count, Text.
-/
set_option linter.unusedSimpArgs false
set_option linter.unusedVariables false
set_option linter.unnecessarySimpa false
namespace Go.Proofs.YtcdogceabkpnmaaDoor
open Go Go.Sv Go.RowKit

def cntR (l : List Ev) (k : Int) : Nat := l.countP fun e => decide (e.kind = k)
/-- how many of each kind -/
def cnts (l : List Ev) : List Value := [int (cntR l 0), int (cntR l 1), int (cntR l 2), int (cntR l 3)]
/-- all text in one -/
def etxt (e : Ev) : List UInt8 := if e.kind = 0 then mendR e.text else []
def textR (l : List Ev) : List UInt8 := l.flatMap etxt
end Go.Proofs.YtcdogceabkpnmaaDoor

/-
  sievelaw18: EventChecks.
-/
set_option linter.unusedSimpArgs false
set_option linter.unusedVariables false
set_option linter.unnecessarySimpa false
namespace Go.Sv
open Go Go.RowKit
section
variable {D : Type} {P : Program} {w0 w w' : World} {cs rest : List Plot} {σ : Env} {d : Option Tmp} {dd dj : Nat} {op : Op} {ty : TypeId} {pos : String} {af : Array Edge} {v : Value} {k j : Nat} {want : Bool} {ops : Array Oper} {T : Value → World → Prop} {B : Prop}
theorem y_ev (sl : List (Nat × Value)) (hs : Has σ sl) {g : Option (Nat × Bool)} (he : ev1 (updGL (lif σ) sl) op = some ⟨v, true⟩) : Y P σ ⟨d, op, ty, pos, af, g⟩ w v w := by
  have hy : Y P (real (updGL (lif σ) sl)) ⟨d, op, ty, pos, af, g⟩ w v w := ev1_ok he rfl
  rw [← frameOf sl hs] at hy
  exact hy
/-- one that only looks at what is known -/
theorem rule_e (sl : List (Nat × Value)) (hs : Has σ sl) (hT : T v w) (he : ev1 (updGL (lif σ) sl) op = some ⟨v, true⟩ := by rfl) :
    (Region.wanted (⟨d, op, ty, pos, af, none⟩ : Oper) (yl ops σ) = true ∧ comes P T ((execOp (evl σ) ⟨d, op, ty, pos, af, none⟩).run P w)) ∨ B := rule_y (y_ev sl hs he) hT
end
end Go.Sv
namespace Go.Proofs.YtcdogceabkpnmaaDoor
open Go Go.Sv Go.RowKit







structure CkD where
  q : Option Addr
  c : Nat
  ns : List EvM
def ckP (ms ns : List EvM) (p q : Option Addr) (c cc : Nat) : Plan CkD where
  val k d := match k with
    | 0 | 3 | 8 | 9 | 14 | 20 => .slice p ms.length c
    | 1 | 4 => .slice q ns.length cc
    | 2 | 5 => .bool (decide (evs ms = evs ns))
    | 10 => .slice d.q d.ns.length d.c
    | 15 | 16 => .agg ⟨cnts (evs ms)⟩
    | 21 | 22 => str (textR (evs ms))
    | _ => .bool true
  pl k d := match k with
    | 10 => [pRow 4 d.q d.ns.length d.c (d.ns.flatMap EvM.cells), pMany (d.ns.map EvM.row)]
    | _ => []
  con k := match k with
    | 10 => some 11
    | _ => none
  fact k a := match k with
    | 10 => evs (a 10).ns = evs ms
    | _ => True



















































































































































































































































































end Go.Proofs.YtcdogceabkpnmaaDoor

/-
  Regions that draw their order, by a plan, where operations may also take (and write) what lay there before.
-/
set_option linter.unusedSimpArgs false
set_option linter.unusedVariables false
set_option linter.unnecessarySimpa false
namespace Go.Sv
open Go Go.RowKit
theorem perm5 {α : Type} (A B C D E : List α) : ((A ++ B) ++ ((C ++ D) ++ E)).Perm (A ++ (C ++ (E ++ (B ++ D)))) := by
  simp only [List.append_assoc]
  refine List.Perm.append_left _ ?_
  have h1 : (B ++ (C ++ (D ++ E))).Perm (C ++ (B ++ (D ++ E))) := by
    rw [← List.append_assoc B C, ← List.append_assoc C B]
    exact List.perm_append_comm.append_right _
  refine h1.trans (List.Perm.append_left _ ?_)
  rw [← List.append_assoc]
  exact List.perm_append_comm
theorem perm4 {α : Type} (A B C D : List α) : (A ++ (B ++ (C ++ D))).Perm ((A ++ C) ++ (D ++ B)) := by
  simp only [List.append_assoc]
  refine List.Perm.append_left _ ?_
  have h1 : (B ++ (C ++ D)).Perm ((C ++ D) ++ B) := List.perm_append_comm
  rw [List.append_assoc] at h1
  exact h1
theorem perm6 {α : Type} (A B C S D E : List α) : ((A ++ B) ++ ((C ++ (S ++ D)) ++ E)).Perm (A ++ (C ++ (S ++ (E ++ (B ++ D))))) := by
  refine (perm5 A B C (S ++ D) E).trans (List.Perm.append_left _ (List.Perm.append_left _ ?_))
  have h1 : (E ++ (B ++ (S ++ D))) = ((E ++ B) ++ S) ++ D := by simp only [List.append_assoc]
  have h2 : (S ++ (E ++ (B ++ D))) = (S ++ (E ++ B)) ++ D := by simp only [List.append_assoc]
  rw [h1, h2]
  exact List.perm_append_comm.append_right _
theorem perm7 {α : Type} (A S B C D : List α) : (A ++ (S ++ (B ++ (C ++ D)))).Perm ((A ++ C) ++ ((S ++ D) ++ B)) := by
  have h1 : (A ++ (S ++ (B ++ (C ++ D)))) = (A ++ ((S ++ B) ++ (C ++ D))) := by simp only [List.append_assoc]
  rw [h1]
  refine (perm4 A (S ++ B) C D).trans (List.Perm.append_left _ ?_)
  have h2 : (S ++ D) ++ B = S ++ (D ++ B) := by simp only [List.append_assoc]
  rw [h2]
  have h3 : D ++ (S ++ B) = (D ++ S) ++ B := by simp only [List.append_assoc]
  have h4 : S ++ (D ++ B) = (S ++ D) ++ B := by simp only [List.append_assoc]
  rw [h3, h4]
  exact List.perm_append_comm.append_right _
section
variable {P : Program} {n : Nat} {ds : Ctx} {Q : Exit → Ctx → Env → World → Prop} {S : (Nat → Bool) → Env → World → Prop} {σ : Env} {w : World} {m : Nat}
theorem wpOpIn_of_I {ops : Array Oper} {dd : List Deferred} {Q' : Exit → Act → World → Prop} {T : Value → World → Prop} {K : Act → World → Prop} {i : Nat} {o : Oper} {ro : Option Nat} (hino : operIn n ro.isSome ops o = true) (ho : ops[i]? = some o)
    (h : (Region.wanted o (yl ops σ) = true ∧ comes P T ((execOp (evl σ) o).run P w)) ∨ (Region.wanted o (yl ops σ) = false ∧ T undef w))
    (next : ∀ v w', T v w' → K ((act n dd σ).put o.dst v) w') : wpOpIn (fen ro) m P ops Q' i K (act n dd σ) w := by
  unfold wpOpIn
  simp only [ho]
  rw [act_yielded hino]
  rcases h with ⟨hw, hy⟩ | ⟨hw, hy⟩
  · rw [hw, if_pos rfl]
    refine ⟨fun _ _ => fen_fn _ _, ?_⟩
    rw [fen_round, semAt_in hino, act_exec hino]
    generalize (execOp (evl σ) o).run P w = r at *
    cases r with
    | ok x w' =>
      cases x <;> simp only [comes] at hy <;> simp only [Oper.uponIn]
      case value u => exact next _ _ hy
      case skip => exact next _ _ hy
      case enter g args =>
        refine ⟨fun h => (by rw [fen_depth] at h; cases h), callsIn_fen (Calls.mono hy ?_)⟩
        rintro e w'' ⟨v, rfl, h2⟩
        exact next _ _ h2
    | halt x w' => simp only [comes] at hy
  · rw [hw, if_neg Bool.false_ne_true]
    exact ⟨fun _ _ => fen_fn _ _, next _ _ hy⟩
theorem wpAnyIn_of_I {ops : Array Oper} {dd : List Deferred} {Q' : Exit → Act → World → Prop} {ro : Option Nat} (hf : fwdB ops = true) (hin : ops.toList.all (operIn n ro.isSome ops) = true) (hop : ∀ k o, ops[k]? = some o → StepI P ops S k o)
    (hQ : ∀ L σ w, (∀ k, k < ops.size → L k = true) → S L σ w → Q' .normal (act n dd σ) w) :
    ∀ (f : Nat) (listed : Array Bool) (σ : Env) (w : World), listed.size = ops.size → Clo ops (fl listed) → listed.toList.count false ≤ f → S (fl listed) σ w → wpAnyIn (fen ro) m P .any ops Q' f listed (act n dd σ) w
  | 0, listed, σ, w, hsz, _, hc, hS => by
    have hall : ∀ k, k < ops.size → fl listed k = true := by
      intro k hk
      cases hL : fl listed k with
      | true => rfl
      | false =>
        exfalso
        simp only [fl, Array.getD_eq_getD_getElem?, show k < listed.size from by omega, Array.getElem?_eq_getElem, Option.getD_some] at hL
        have : false ∈ listed.toList := by rw [← hL]; simp
        have := List.count_pos_iff.2 this
        omega
    refine ⟨?_, hQ _ _ _ hall hS⟩
    cases hr : Region.ready .any ops listed with
    | nil => rfl
    | cons i r =>
      exfalso
      have hi : i ∈ Region.ready .any ops listed := by rw [hr]; exact List.mem_cons_self
      obtain ⟨h0, o, ho, _⟩ := mem_ready.1 hi
      have hk : i < ops.size := (Array.getElem?_eq_some_iff.1 ho).1
      have := hall i hk
      simp only [fl, Array.getD_eq_getD_getElem?, show i < listed.size from by omega, Array.getElem?_eq_getElem, Option.getD_some] at this h0
      rw [this] at h0
      cases h0
  | f + 1, listed, σ, w, hsz, hcl, hc, hS => by
    refine ⟨fun hr => hQ _ _ _ (ready_of_fwd hf hsz hr) hS, fun i hi => ?_⟩
    obtain ⟨h0, o, ho, hall⟩ := mem_ready.1 hi
    have hio : i < ops.size := (Array.getElem?_eq_some_iff.1 ho).1
    have hlt : i < listed.size := by omega
    have h0' : listed[i] = false := by simpa [hlt] using h0
    have hup : Up ops o i (fl listed) := by
      refine ⟨by simp [fl, hlt, h0'], ?_, ?_⟩
      · intro j hj
        obtain ⟨e, he, hb, rfl⟩ := bindsOn_iff.1 hj
        exact hall e he hb
      · intro j oj hj hb
        cases hL : fl listed j with
        | false => rfl
        | true =>
          have h1 := hcl j oj hj hL i hb
          have h2 : fl listed i = true := h1
          simp [fl, hlt, h0'] at h2
    have hino : operIn n ro.isSome ops o = true := by
      rw [List.all_eq_true] at hin
      exact hin o (by simpa using Array.mem_of_getElem? ho)
    refine wpOpIn_of_I hino ho (hop i o ho _ σ w hup hS) fun v w' hw' => ?_
    rw [act_put (operIn_dst hino)]
    refine wpAnyIn_of_I hf hin hop hQ f _ _ _ (by simpa using hsz) (by rw [fl_set hlt]; exact clo_on hcl ho hup.did) ?_ (by rw [fl_set hlt]; exact hw')
    rw [Array.toList_setIfInBounds, List.count_set]
    · have hb : listed.toList[i]'(by simpa using hlt) = false := by simpa using h0'
      have hpos : 0 < listed.toList.count false := List.count_pos_iff.2 (by rw [← hb]; exact List.getElem_mem _)
      rw [hb]; simp only [beq_self_eq_true, if_true]; simp; rw [Array.count_toList] at *; omega
    · simpa using hlt
/-- a region that draws, within whatever round -/
theorem wcdrawir [hm : Mix P] {id : Nat} {ops : List Oper} (S : (Nat → Bool) → Env → World → Prop) (h0 : ∀ wd, Frm w wd → S (fun _ => false) σ wd) (hop : StepsI P ops.toArray S 0 ops)
    (hend : ∀ L σ' w', (∀ k, k < ops.length → L k = true) → S L σ' w' → Q .normal ds σ' w') (hf : fwdB ops.toArray = true := by kernel_rfl) : WC P n ds (.region id ops.toArray true) Q σ w := by
  unfold WC
  intro hin
  have hin' : ops.all (operIn n ds.ro.isSome ops.toArray) = true := by simpa [codeIn] using hin
  refine wpIn_region_any hm.ok ?_
  have e0 : fl (Array.replicate ops.toArray.size false) = fun _ => false := by funext k; exact getD_replicate_false _ _
  refine wpAnyIn_of_I (S := S) (n := n) hf (by simpa using hin') (fun k o ho => ?_) ?_ _ _ _ _ (by simp) ?_ ?_ ?_
  · have := stepsI_get hop k o (by simpa using ho)
    rwa [Nat.zero_add] at this
  · intro L σ' w' hL hS
    exact ⟨ds.ds, σ', rfl, hend L σ' w' (by simpa using hL) hS⟩
  · rw [e0]; intro j oj _ hL; cases hL
  · simp
  · rw [e0]; exact h0 _ (Frm.drawn (Frm.refl w))
end
/-- what an operation leaves: its value, and where what it made lies -/
structure PD (X : Type) where
  v : Value
  p : Option Addr
  c : Nat
  b : Nat
  x : X
structure PlanB (X : Type) where
  pl : Nat → PD X → List Plot
  con : Nat → Option Nat
  base : Nat → List Plot
  fact : Nat → (Nat → PD X) → Prop
section
variable {X : Type}
def PlanB.live (p : PlanB X) (L : Nat → Bool) (j : Nat) : Bool := L j && (match p.con j with | some c => !L c | none => true)
def PlanB.mem (p : PlanB X) (n : Nat) (L : Nat → Bool) (a : Nat → PD X) : List Plot := ((List.range n).filter (p.live L)).flatMap fun j => p.pl j (a j)
/-- what operation k takes -/
def PlanB.takes (p : PlanB X) (n k : Nat) (a : Nat → PD X) : List Plot := ((List.range n).filter fun j => decide (p.con j = some k)).flatMap fun j => p.pl j (a j)
/-- what lay there before and is still to be taken -/
def PlanB.bmem (p : PlanB X) (n : Nat) (L : Nat → Bool) : List Plot := ((List.range n).filter fun j => !L j).flatMap p.base
def PlanB.S (p : PlanB X) (w0 : World) (cs : List Plot) (σ0 : Env) (ops : List Oper) (L : Nat → Bool) (σ : Env) (w : World) : Prop :=
  (∀ s, (∀ (k : Nat) (o : Oper), ops[k]? = some o → L k = true → o.dst ≠ some s) → σ s = σ0 s) ∧
  ∃ a : Nat → PD X, (∀ (k : Nat) (o : Oper), ops[k]? = some o → L k = true → (∀ d, o.dst = some d → σ d = (a k).v) ∧ p.fact k a) ∧ Sep w0 w (p.mem ops.length L a ++ (p.bmem ops.length L ++ cs))
/-- what k can see of what is to be taken by those that wait for it -/
def seesB (ops : List Oper) (k j : Nat) : Bool := decide (j ≠ k) && (match ops[j]? with | some oj => bindsOn oj k | none => false)
def PlanB.seen (p : PlanB X) (ops : List Oper) (k : Nat) : List Plot := ((List.range ops.length).filter (seesB ops k)).flatMap p.base
/-- how operation k goes, by the plan -/
def PlanB.Rule (p : PlanB X) (P : Program) (w0 : World) (cs : List Plot) (σ0 : Env) (ops : List Oper) (k : Nat) (o : Oper) : Prop :=
  ∀ (a : Nat → PD X) (σ : Env) (w : World) (rest : List Plot), (∀ s, (∀ (j : Nat) (o : Oper), ops[j]? = some o → j ≠ k → bindsOn o k = false → o.dst ≠ some s) → σ s = σ0 s) →
    (∀ (j : Nat) (oj : Oper), bindsOn o j = true → ops[j]? = some oj → (∀ d, oj.dst = some d → σ d = (a j).v) ∧ p.fact j a) → Sep w0 w (p.takes ops.length k a ++ (p.base k ++ (p.seen ops k ++ (cs ++ rest)))) →
    (Region.wanted o (yl ops.toArray σ) = true ∧ comes P (fun v w' => ∃ d, v = d.v ∧ p.fact k (setD a k d) ∧ Sep w0 w' (p.pl k d ++ (p.seen ops k ++ (cs ++ rest)))) ((execOp (evl σ) o).run P w)) ∨
    (Region.wanted o (yl ops.toArray σ) = false ∧ ∃ d, undef = d.v ∧ p.fact k (setD a k d) ∧ Sep w0 w (p.pl k d ++ (p.seen ops k ++ (cs ++ rest))))
def PlanB.Rules (p : PlanB X) (P : Program) (w0 : World) (cs : List Plot) (σ0 : Env) (ops : List Oper) : Nat → List Oper → Prop
  | _, [] => True
  | k, o :: l => p.Rule P w0 cs σ0 ops k o ∧ p.Rules P w0 cs σ0 ops (k + 1) l
theorem planb_core {p : PlanB X} {w0 : World} {cs : List Plot} {σ0 : Env} {ops : List Oper} (hB : planB p.con ops = true)
    (hF : ∀ (j : Nat) (oj : Oper) (a a' : Nat → PD X), ops[j]? = some oj → a j = a' j → (∀ i, bindsOn oj i = true → a i = a' i) → p.fact j a → p.fact j a') {k : Nat} {o : Oper} (hk : ops[k]? = some o) {L : Nat → Bool} {σ : Env} {w : World} (hu : Up ops.toArray o k L) (hS0 : p.S w0 cs σ0 ops L σ w) :
    ∃ (a : Nat → PD X) (rest : List Plot), (∀ s, (∀ (j : Nat) (o : Oper), ops[j]? = some o → j ≠ k → bindsOn o k = false → o.dst ≠ some s) → σ s = σ0 s) ∧
      (∀ (j : Nat) (oj : Oper), bindsOn o j = true → ops[j]? = some oj → (∀ d, oj.dst = some d → σ d = (a j).v) ∧ p.fact j a) ∧ Sep w0 w (p.takes ops.length k a ++ (p.base k ++ (p.seen ops k ++ (cs ++ rest)))) ∧
      ∀ d w', p.fact k (setD a k d) → Sep w0 w' (p.pl k d ++ (p.seen ops k ++ (cs ++ rest))) → p.S w0 cs σ0 ops (on L k) (updO σ o.dst (d.v)) w' := by
  obtain ⟨hσ, a, hA, hS⟩ := hS0
  have hkn : k < ops.length := by
    rcases Nat.lt_or_ge k ops.length with h | h
    · exact h
    · rw [List.getElem?_eq_none h] at hk; cases hk
  have hcon : ∀ j c, j < ops.length → p.con j = some c → ∃ oc, ops[c]? = some oc ∧ bindsOn oc j = true := by
    intro j c hj hc
    have := List.all_eq_true.1 hB j (List.mem_range.2 hj)
    rw [Bool.and_eq_true, hc] at this
    have h1 := this.1
    simp only [Bool.and_eq_true, decide_eq_true_eq] at h1
    rw [List.getElem?_eq_getElem h1.1] at h1
    exact ⟨_, List.getElem?_eq_getElem h1.1, h1.2⟩
  have hdst : ∀ (i j : Nat) (oi oj : Oper) (d : Nat), ops[i]? = some oi → ops[j]? = some oj → i ≠ j → oi.dst = some d → oj.dst ≠ some d := by
    intro i j oi oj d hi hj hne hd
    have hjn : j < ops.length := (List.getElem?_eq_some_iff.1 hj).1
    have hin : i < ops.length := (List.getElem?_eq_some_iff.1 hi).1
    have := List.all_eq_true.1 hB j (List.mem_range.2 hjn)
    rw [Bool.and_eq_true] at this
    have := List.all_eq_true.1 this.2 i (List.mem_range.2 hin)
    rw [hi, hj] at this
    simp only [hne, decide_false, Bool.false_or, hd, decide_eq_true_eq] at this
    exact this
  -- what k takes, and the rest
  let q : Nat → Bool := fun j => p.live L j && !decide (p.con j = some k)
  let rest0 : List Plot := ((List.range ops.length).filter q).flatMap fun j => p.pl j (a j)
  let bm : List Plot := p.bmem ops.length (on L k)
  let bm2 : List Plot := (((List.range ops.length).filter fun j => !(on L k) j).filter fun j => !(seesB ops k j)).flatMap p.base
  let rest : List Plot := rest0 ++ bm2
  have hsee : bm.Perm (p.seen ops k ++ bm2) := by
    have h2 := List.filter_append_perm (seesB ops k) ((List.range ops.length).filter fun j => !(on L k) j)
    have h3 : ((List.range ops.length).filter fun j => !(on L k) j).filter (seesB ops k) = (List.range ops.length).filter (seesB ops k) := by
      rw [List.filter_filter]
      refine List.filter_congr fun j hj => ?_
      cases hs : seesB ops k j with
      | false => rfl
      | true =>
        unfold seesB at hs
        rw [Bool.and_eq_true, decide_eq_true_eq] at hs
        obtain ⟨hne, hs⟩ := hs
        cases ho : ops[j]? with
        | none => rw [ho] at hs; cases hs
        | some oj =>
          rw [ho] at hs
          have := hu.ahead j oj (by simpa using ho) hs
          simp [on_ne L hne, this]
    rw [h3] at h2
    have h4 := h2.symm.flatMap_right p.base
    rw [List.flatMap_append] at h4
    exact h4
  have hbm : (p.bmem ops.length L).Perm (p.base k ++ bm) := by
    have hl : (List.range ops.length).filter (fun j => !L j) = (List.range ops.length).filter fun j => decide (j = k) || !(on L k) j := by
      refine List.filter_congr fun j hj => ?_
      by_cases e : j = k
      · subst e; simp [hu.now]
      · simp [e, on_ne L e]
    show (((List.range ops.length).filter fun j => !L j).flatMap p.base).Perm _
    rw [hl]
    refine ((filter_insert (q := fun j => !(on L k) j) (by simp [on_same]) List.nodup_range (List.mem_range.2 hkn)).flatMap_right p.base).trans ?_
    rw [List.flatMap_cons]
    exact List.Perm.refl _
  have htake : (List.range ops.length).filter (fun j => p.live L j && decide (p.con j = some k)) = (List.range ops.length).filter fun j => decide (p.con j = some k) := by
    refine List.filter_congr fun j hj => ?_
    by_cases hc : p.con j = some k
    · obtain ⟨oc, ho, hb⟩ := hcon j k (List.mem_range.1 hj) hc
      rw [hk] at ho
      injection ho with ho
      subst ho
      have h1 := hu.did j hb
      simp [PlanB.live, hc, h1, hu.now]
    · simp [hc]
  have hperm : (p.mem ops.length L a ++ (p.bmem ops.length L ++ cs)).Perm (p.takes ops.length k a ++ (p.base k ++ (p.seen ops k ++ (cs ++ rest)))) := by
    have h1 : ((List.range ops.length).filter fun j => decide (p.con j = some k)) ++ ((List.range ops.length).filter q) |>.Perm ((List.range ops.length).filter (p.live L)) := by
      have h2 := List.filter_append_perm (fun j => decide (p.con j = some k)) ((List.range ops.length).filter (p.live L))
      rw [List.filter_filter, List.filter_filter] at h2
      rw [← htake]
      refine List.Perm.trans ?_ h2
      refine List.Perm.append (List.Perm.of_eq (List.filter_congr fun j _ => Bool.and_comm _ _)) (List.Perm.of_eq (List.filter_congr fun j _ => Bool.and_comm _ _))
    have h3 := (h1.symm.flatMap_right fun j => p.pl j (a j))
    rw [List.flatMap_append] at h3
    exact (h3.append ((hbm.trans (List.Perm.append_left _ hsee)).append_right cs)).trans (perm6 _ _ _ _ _ _)
  have hlive : ∀ d, (p.mem ops.length (on L k) (setD a k d)).Perm (p.pl k d ++ rest0) := by
    intro d
    have hq : q k = false := by simp [q, PlanB.live, hu.now]
    have hl : (List.range ops.length).filter (p.live (on L k)) = (List.range ops.length).filter fun j => decide (j = k) || q j := by
      refine List.filter_congr fun j hj => ?_
      by_cases e : j = k
      · subst e
        have : (match p.con j with | some c => !(on L j c) | none => true) = true := by
          cases hc : p.con j with
          | none => rfl
          | some c =>
            obtain ⟨oc, ho, hb⟩ := hcon j c hkn hc
            have h1 := hu.ahead c oc (by simpa using ho) hb
            have hne : c ≠ j := by
              intro e
              subst e
              rw [hk] at ho
              injection ho with ho
              subst ho
              have := hu.did c hb
              rw [hu.now] at this
              cases this
            simp [on_ne L hne, h1]
        simp only [PlanB.live, on_same, this, Bool.and_self, decide_true, Bool.true_or]
      · simp only [PlanB.live, on_ne L e, decide_eq_false e, Bool.false_or, q]
        cases hc : p.con j with
        | none => simp
        | some c =>
          by_cases ec : c = k
          · subst ec; simp [on_same]
          · have : ¬ (some c = some k) := fun h => ec (Option.some.inj h)
            simp [on_ne L ec, this]
    unfold PlanB.mem
    rw [hl]
    refine ((filter_insert hq List.nodup_range (List.mem_range.2 hkn)).flatMap_right fun j => p.pl j (setD a k d j)).trans ?_
    rw [List.flatMap_cons, setD_same]
    refine List.Perm.append_left _ (List.Perm.of_eq ?_)
    show _ = List.flatMap (fun j => p.pl j (a j)) (List.filter q (List.range ops.length))
    rw [List.flatMap_def, List.flatMap_def]
    refine congrArg _ (List.map_congr_left fun j hj => ?_)
    have : j ≠ k := by
      rintro rfl
      have := (List.mem_filter.1 hj).2
      rw [hq] at this; cases this
    rw [setD_ne a d this]
  have hnew : ∀ d w', p.fact k (setD a k d) → Sep w0 w' (p.pl k d ++ (p.seen ops k ++ (cs ++ rest))) → p.S w0 cs σ0 ops (on L k) (updO σ o.dst (d.v)) w' := by
    intro d w' hf hS'
    refine ⟨fun s hs => ?_, setD a k d, fun j oj hj hL => ?_, ?_⟩
    · have h1 := hs k o hk (on_same L k)
      have hs' : ∀ (j : Nat) (oj : Oper), ops[j]? = some oj → L j = true → oj.dst ≠ some s := fun j oj hj hL => hs j oj hj (by
        by_cases e : j = k
        · subst e; exact on_same L j
        · rw [on_ne L e]; exact hL)
      cases hd : o.dst with
      | none => exact hσ s hs'
      | some dd =>
        rw [hd] at h1
        exact (upd_ne σ _ (fun e => h1 (by rw [e]))).trans (hσ s hs')
    · by_cases e : j = k
      · subst e
        rw [hk] at hj
        injection hj with hj
        subst hj
        refine ⟨fun dd hd => ?_, hf⟩
        rw [hd, setD_same]
        exact upd_same σ dd _
      · rw [on_ne L e] at hL
        obtain ⟨h1, h2⟩ := hA j oj hj hL
        refine ⟨fun dd hd => ?_, ?_⟩
        · rw [setD_ne a d e, ← h1 dd hd]
          cases hdo : o.dst with
          | none => rfl
          | some d2 =>
            have := hdst k j o oj d2 hk hj (fun e2 => e e2.symm) hdo
            exact upd_ne σ _ (fun e2 => this (by rw [hd, e2]))
        · refine hF j oj a _ hj (setD_ne a d e).symm (fun i hi => ?_) h2
          have : i ≠ k := by
            rintro rfl
            have := hu.ahead j oj (by simpa using hj) hi
            rw [this] at hL; cases hL
          exact (setD_ne a d this).symm
    · refine hS'.perm ?_
      exact (perm7 _ _ _ _ _).trans ((hlive d).symm.append (hsee.symm.append_right cs))
  exact ⟨a, rest, fun s hs => hσ s fun j oj hj hL => hs j oj hj (fun e => by rw [e, hu.now] at hL; cases hL) (by
      cases hb : bindsOn oj k with
      | false => rfl
      | true => have := hu.ahead j oj (by simpa using hj) hb; rw [this] at hL; cases hL), fun j oj hb hj => hA j oj hj (hu.did j hb), hS.perm hperm, hnew⟩
theorem planb_step {p : PlanB X} {P : Program} {w0 : World} {cs : List Plot} {σ0 : Env} {ops : List Oper} (hB : planB p.con ops = true)
    (hF : ∀ (j : Nat) (oj : Oper) (a a' : Nat → PD X), ops[j]? = some oj → a j = a' j → (∀ i, bindsOn oj i = true → a i = a' i) → p.fact j a → p.fact j a') {k : Nat} {o : Oper} (hk : ops[k]? = some o) (h : p.Rule P w0 cs σ0 ops k o) : StepI P ops.toArray (p.S w0 cs σ0 ops) k o := by
  intro L σ w hu hS0
  obtain ⟨a, rest, h1, h2, h3, hnew⟩ := planb_core hB hF hk hu hS0
  rcases h a σ w rest h1 h2 h3 with ⟨h1, h2⟩ | ⟨h1, d, h2, h3, h4⟩
  · refine .inl ⟨h1, comes_mono (fun v w' => ?_) h2⟩
    rintro ⟨d, rfl, hf, hS'⟩
    exact hnew d w' hf hS'
  · refine .inr ⟨h1, ?_⟩
    rw [h2]
    exact hnew d w h3 h4
theorem planb_steps {p : PlanB X} {P : Program} {w0 : World} {cs : List Plot} {σ0 : Env} {ops : List Oper} (hB : planB p.con ops = true)
    (hF : ∀ (j : Nat) (oj : Oper) (a a' : Nat → PD X), ops[j]? = some oj → a j = a' j → (∀ i, bindsOn oj i = true → a i = a' i) → p.fact j a → p.fact j a') : ∀ (l : List Oper) (k : Nat), (∀ j o, l[j]? = some o → ops[k + j]? = some o) → p.Rules P w0 cs σ0 ops k l → StepsI P ops.toArray (p.S w0 cs σ0 ops) k l
  | [], _, _, _ => trivial
  | o :: l, k, hl, hr => ⟨planb_step hB hF (by simpa using hl 0 o rfl) hr.1, planb_steps hB hF l (k + 1) (fun j o' h => by rw [show k + 1 + j = k + (j + 1) from by omega]; exact hl (j + 1) o' (by simpa using h)) hr.2⟩
/-- a region that draws, by a plan -/
theorem wcplanb {P : Program} [hm : Mix P] {n : Nat} {ds : Ctx} {Q : Exit → Ctx → Env → World → Prop} {σ : Env} {w w0 : World} {id : Nat} {ops : List Oper} {cs b : List Plot} (p : PlanB X) (d0 : PD X) (hS : Sep w0 w (b ++ cs)) (hb : (List.range ops.length).flatMap p.base = b)
    (hF : ∀ (j : Nat) (oj : Oper) (a a' : Nat → PD X), ops[j]? = some oj → a j = a' j → (∀ i, bindsOn oj i = true → a i = a' i) → p.fact j a → p.fact j a')
    (hR : p.Rules P w0 cs σ ops 0 ops)
    (hend : ∀ (a : Nat → PD X) σ' w', (∀ s, (∀ (k : Nat) (o : Oper), ops[k]? = some o → o.dst ≠ some s) → σ' s = σ s) → (∀ (k : Nat) (o : Oper), ops[k]? = some o → (∀ d, o.dst = some d → σ' d = (a k).v) ∧ p.fact k a) →
      Sep w0 w' (((List.range ops.length).filter fun j => (p.con j).isNone).flatMap (fun j => p.pl j (a j)) ++ cs) → Q .normal ds σ' w')
    (hB : planB p.con ops = true := by kernel_rfl) (hf : fwdB ops.toArray = true := by kernel_rfl) : WC P n ds (.region id ops.toArray true) Q σ w := by
  refine wcdrawir (p.S w0 cs σ ops) (fun wd hwd => ⟨fun _ _ => rfl, fun _ => d0, fun _ _ _ h => absurd h Bool.false_ne_true, ?_⟩) (planb_steps hB hF ops 0 (fun j o h => by rwa [Nat.zero_add]) hR) ?_ hf
  · have e : p.mem ops.length (fun _ => false) (fun _ => d0) = [] := by
      unfold PlanB.mem
      rw [List.filter_eq_nil_iff.2 (by intro j _; simp [PlanB.live])]
      rfl
    have e2 : p.bmem ops.length (fun _ => false) = b := by
      rw [← hb]; unfold PlanB.bmem
      rw [List.filter_eq_self.2 (by intro j _; rfl)]
    rw [e, e2]
    exact hS.grow hwd
  · rintro L σ' w' hL ⟨hσ, a, hA, hS'⟩
    refine hend a σ' w' (fun s hs => hσ s fun k o hk _ => hs k o hk) (fun k o hk => hA k o hk (hL k (List.getElem?_eq_some_iff.1 hk).1)) ?_
    have e2 : p.bmem ops.length L = [] := by
      unfold PlanB.bmem
      rw [List.filter_eq_nil_iff.2 (by intro j hj; simp [hL j (List.mem_range.1 hj)])]
      rfl
    rw [e2] at hS'
    refine hS'.perm (List.Perm.append_right _ (List.Perm.of_eq ?_))
    unfold PlanB.mem
    congr 1
    refine List.filter_congr fun j hj => ?_
    have h1 := hL j (List.mem_range.1 hj)
    simp only [PlanB.live, h1, Bool.true_and]
    cases hc : p.con j with
    | none => rfl
    | some c =>
      have := List.all_eq_true.1 hB j hj
      rw [Bool.and_eq_true, hc] at this
      have h2 := this.1
      simp only [Bool.and_eq_true, decide_eq_true_eq] at h2
      simp [hL c h2.1]
end
theorem notDstB {ops : List Oper} {s k : Nat} (h : ((List.range ops.length).all fun j => match ops[j]? with | some o => decide (j = k) || bindsOn o k || decide (o.dst ≠ some s) | none => true) = true) :
    ∀ (j : Nat) (o : Oper), ops[j]? = some o → j ≠ k → bindsOn o k = false → o.dst ≠ some s := fun j o hj hne hb => by
  have := List.all_eq_true.1 h j (List.mem_range.2 (List.getElem?_eq_some_iff.1 hj).1)
  rw [hj] at this
  simpa [hne, hb] using this
end Go.Sv

/-
  Texts cut and joined: what is valid stays so.
-/
set_option linter.unusedSimpArgs false
set_option linter.unusedVariables false
set_option linter.unnecessarySimpa false
namespace Go.Proofs.YtcdogceabkpnmaaDoor
open Go Go.Sv Go.RowKit
end Go.Proofs.YtcdogceabkpnmaaDoor

/-
  Events folded into trees: what holds of events that nest; events merged.
-/
set_option linter.unusedSimpArgs false
set_option linter.unusedVariables false
set_option linter.unnecessarySimpa false
namespace Go.Proofs.YtcdogceabkpnmaaDoor
open Go Go.Sv Go.RowKit

/-- how deep it all is, frames closed -/
def up : List Fr → Nat → Nat
  | [], d => d
  | f :: fs, d => up fs (max (dN f.out) (1 + d))
/-- what holds of events that nest -/
structure Nst (l : List Ev) : Prop where
  h : hL l = (lkR l).stack.length
  stk : (mcR ⟨[], []⟩ l).stk.length = (lkR l).stack.length
  most : up (mcR ⟨[], []⟩ l).stk (dN (mcR ⟨[], []⟩ l).out) = (lkR l).most
  names : ∀ f ∈ (mcR ⟨[], []⟩ l).stk, f.name ≠ []
  cnt : cntR l 1 = cntR l 2 + (lkR l).stack.length
  all : cntR l 0 + cntR l 1 + cntR l 2 + cntR l 3 = l.length
/-! ## merged -/
def mgStep (acc : List Ev) (e : Ev) : List Ev :=
  if e.kind ≠ 0 then acc ++ [e]
  else if e.text = [] then acc
  else match acc.getLast? with
    | some m => if m.kind = 0 then acc.dropLast ++ [{ m with text := m.text ++ e.text }] else acc ++ [e]
    | none => [e]
def mgR (l : List Ev) : List Ev := l.foldl mgStep []
end Go.Proofs.YtcdogceabkpnmaaDoor

/-
  Trees: the general part.
-/
set_option linter.unusedSimpArgs false
set_option linter.unusedVariables false
set_option linter.unnecessarySimpa false
namespace Go.Proofs.YtcdogceabkpnmaaDoor
open Go Go.Sv Go.RowKit
/-- a node, without where it lies -/
def NdM.nd (m : NdM) : Nd := ⟨m.name, m.text, m.attrs, m.kids.fo⟩
theorem fo_list (f : FoM) : f.fo = Fo.of (f.list.map NdM.nd) := by
  induction f with
  | nil => rfl
  | cons n t es ap ac ks kp kc r _ ih => simp only [FoM.fo, FoM.list, List.map_cons, Fo.of, NdM.nd, ih]
theorem fo_of (L : List NdM) : (FoM.of L).fo = Fo.of (L.map NdM.nd) := by rw [fo_list, FoM.list_of]
theorem len_of (L : List NdM) : (FoM.of L).len = L.length := by rw [FoM.len, FoM.list_of]
theorem rows_of (L : List NdM) : (FoM.of L).rows = L.flatMap NdM.rows := by rw [rows_eq, FoM.list_of]
theorem nds_flat (L : List NdM) (m : NdM) : L.flatMap NdM.cells ++ m.cells = (L ++ [m]).flatMap NdM.cells := by simp
/-- a node's rows to the others -/
theorem Sep.node {w0 w : World} {cs : List Plot} {m : NdM} {L : List NdM} (h : Sep w0 w (pRow 2 m.ap m.attrs.length m.ac (m.attrs.flatMap At.cells) :: pRow 4 m.kp m.kids.len m.kc (m.kids.list.flatMap NdM.cells) :: pMany m.kids.rows :: pMany (L.flatMap NdM.rows) :: cs)) : Sep w0 w (pMany ((L ++ [m]).flatMap NdM.rows) :: cs) := by
  have h1 := (((h.front 3 rfl).front 1 rfl).more).front 1 rfl
  have h2 := h1.more.front 1 rfl
  have h3 := h2.both
  have e : (L ++ [m]).flatMap NdM.rows = L.flatMap NdM.rows ++ [⟨2, m.ap, m.attrs.length, m.ac, m.attrs.flatMap At.cells⟩] ++ [⟨4, m.kp, m.kids.len, m.kc, m.kids.list.flatMap NdM.cells⟩] ++ m.kids.rows := by simp [NdM.rows]
  rw [e]; exact h3
/-- a text, as a node -/
def txtM (t : List UInt8) : NdM := ⟨[], t, [], none, 0, .nil, none, 0⟩
def txl (ms : List EvM) (i : Nat) : Nat := (((evs ms).take i).map fun e => e.text.length).sum
theorem fo_inj {f g : FoM} : f.fo = g.fo ↔ f.list.map NdM.nd = g.list.map NdM.nd := by
  rw [fo_list, fo_list]
  constructor
  · intro h
    have := congrArg Fo.list h
    rwa [Fo.list_of, Fo.list_of] at this
  · intro h; rw [h]
theorem nd_eq (m m2 : NdM) : m.nd = m2.nd ↔ m.name = m2.name ∧ m.text = m2.text ∧ m.attrs = m2.attrs ∧ m.kids.fo = m2.kids.fo := by
  unfold NdM.nd
  constructor
  · intro h; injection h with h1 h2 h3 h4; exact ⟨h1, h2, h3, h4⟩
  · rintro ⟨h1, h2, h3, h4⟩; rw [h1, h2, h3, h4]
/-! ## how much they weigh -/
def Fo.wt : Fo → Nat
  | .nil => 0
  | .cons n t es ks r => 4 + n.length + t.length + (es.map At.wt).sum + ks.wt + r.wt
theorem wt_fo (f : FoM) : f.wt = f.fo.wt := by
  induction f with
  | nil => rfl
  | cons n t es ap ac ks kp kc r ih1 ih2 => simp only [FoM.wt, FoM.fo, Fo.wt, ih1, ih2]
/-- a list of trees in memory of one's own -/
theorem Sep.treL {w0 w : World} {cs : List Plot} {q : Option Addr} {n c : Nat} {L : List NdM} (h : Sep w0 w cs) (i j : Nat) (hi : cs[i]? = some (pRow 4 q n c (L.flatMap NdM.cells))) (hj : cs[j]? = some (pMany (L.flatMap NdM.rows))) : Tre w q (FoM.of L) := by
  refine Sep.tre (n := n) (c := c) h i j ?_ ?_
  · rw [FoM.list_of]; exact hi
  · rw [rows_of]; exact hj
end Go.Proofs.YtcdogceabkpnmaaDoor

/-
  Chapter 21: text of a node; trees in new memory.
-/
set_option linter.unusedSimpArgs false
set_option linter.unusedVariables false
set_option linter.unnecessarySimpa false
namespace Go.Sv
open Go Go.RowKit
section
variable {P : Program} {w0 w : World} {cs : List Plot} {σ : Env} {d : Option Tmp} {ty : TypeId} {pos : String} {af : Array Edge} {t t' e e' : TypeId} {x y : Operand} {zv : Value} {size bytes n c : Nat} {q : Option Addr} {news : List Value}
/-- a slice written out, of none -/
theorem y_bs0 [hu : Und P t (.slice e)] [hi : Inf P e zv size bytes] (hS : Sep w0 w cs) :
    ∃ b w', Y P σ ⟨d, .buildSlice t 0 #[], ty, pos, af, none⟩ w (.slice (pb b) 0 0) w' ∧ Sep w0 w' (pRow size (pb b) 0 0 [] :: cs) := by
  refine ⟨w.heap.size, w.alloc (.cells #[] e), Y.val ?_, hS.push (frm_alloc _ _) (Row.of_own (own_alloc _ _ _) (by simp) (by omega)) (by simp [pRow, rb])⟩
  simp only [execOp, Instr.buildSlice, Sem.run_bind, underlying, run_program, Result.andThen_ok, hu.ok, Sem.run_pure, run_sizeOf (P := P) (t := e), Nat.zero_mul]
  simp [Instr.fill, newRow]
  refine congrArg (fun cs => w.alloc (Obj.cells cs e)) ?_
  apply Array.ext'
  simp
/-- append to nothing -/
theorem y_app0 [hu : Und P t (.slice e)] [hu' : Und P t' (.slice e')] [hi : Inf P e zv size bytes] (hS : Sep w0 w cs) (hs : Sg w q news) (hx : evl σ x = .slice none 0 0) (hy : evl σ y = .slice q n c) (hl : news.length = n * size)
    (h1 : ∀ u ∈ news, u.oneCell' = true) (hz : zv.cells.size = size) (hsz : 0 < size) (hb : n * bytes ≤ 140737488355328 ∧ n ≤ 9223372036854775807) :
    ∃ p' c2 w', Y P σ ⟨d, .call ⟨.builtin .append, #[x, y], #[t, t']⟩, ty, pos, af, none⟩ w (.slice p' n c2) w' ∧ Sep w0 w' (pRow size p' n c2 news :: cs) := by
  obtain ⟨p', c2, w', h1, h2⟩ := y_app (P := P) (t := t) (t' := t') (ty := ty) (pos := pos) (af := af) (d := d) (x := x) (y := y) (n := n) (hS.push (c := pRow size none 0 0 []) (Frm.refl _) (Row.nil _ size) (rb_nil _)) 0 hs rfl hx hy hl h1 hz hsz (by rw [Nat.zero_add]; exact hb)
  rw [Nat.zero_add] at h1 h2
  rw [List.nil_append] at h2
  exact ⟨p', c2, w', h1, h2⟩
end
end Go.Sv
namespace Go.Sv
open Go Go.RowKit
/-- some of the first n pieces, in whatever order, ahead of the rest -/
theorem Sep.sel {w0 w : World} {xs ds : List Plot} (h : Sep w0 w xs) (n : Nat) (is : List Nat) (hd : is.filterMap (fun i => xs[i]?) ++ xs.drop n = ds := by rfl) (hn : is.Nodup := by decide) (hl : ∀ i ∈ is, i < n := by decide) : Sep w0 w ds := by
  subst hd
  have hR : ∀ (i j : Nat) (a b : Plot), i ≠ j → xs[i]? = some a → xs[j]? = some b → ∀ x ∈ a.foot, x ∉ b.foot := by
    intro i j a b hij ha hb
    obtain ⟨hi, rfl⟩ := List.getElem?_eq_some_iff.1 ha
    obtain ⟨hj, rfl⟩ := List.getElem?_eq_some_iff.1 hb
    have hp := h.apart
    rw [List.pairwise_iff_getElem] at hp
    rcases Nat.lt_or_ge i j with h1 | h1
    · exact hp i j hi hj h1
    · intro x hx hx'
      exact hp j i hj hi (by omega) x hx' hx
  have hm : ∀ c ∈ is.filterMap (fun i => xs[i]?) ++ xs.drop n, c ∈ xs := by
    intro c hc
    rcases List.mem_append.1 hc with hc | hc
    · obtain ⟨i, _, hi⟩ := List.mem_filterMap.1 hc
      exact List.mem_of_getElem? hi
    · exact List.mem_of_mem_drop hc
  refine ⟨h.frm, fun c hc => h.ok c (hm c hc), fun c hc => h.low c (hm c hc), ?_⟩
  rw [List.pairwise_append]
  refine ⟨?_, h.apart.sublist (List.drop_sublist _ _), ?_⟩
  · rw [List.pairwise_filterMap]
    exact hn.imp fun {i j} hij a ha b hb => hR i j a b hij ha hb
  · intro a ha b hb
    obtain ⟨i, hi, hia⟩ := List.mem_filterMap.1 ha
    obtain ⟨j, hj⟩ := List.mem_iff_getElem?.1 hb
    rw [List.getElem?_drop] at hj
    have := hl i hi
    exact hR i (n + j) a b (by omega) hia hj
end Go.Sv
namespace Go.Proofs.YtcdogceabkpnmaaDoor
open Go Go.Sv Go.RowKit

theorem bm1 {σ : Env} {x : Operand} {v : Value} {i : Nat} (h : evl σ x = v) : [(i, x)].map (fun p => (p.1, evl σ p.2)) = [(i, v)] := by simp [h]
/-- a node put behind others: its rows to theirs -/
theorem Sep.putNode {w0 w : World} {cs : List Plot} {m : NdM} {L : List NdM} {b b' : Nat} {vs vs' : List Value} {q : Option Addr} {cc : Nat} (h : Sep w0 w (pOwn b vs :: pRow 4 m.kp m.kids.len m.kc (m.kids.list.flatMap NdM.cells) :: pMany m.kids.rows :: pRow 2 m.ap m.attrs.length m.ac (m.attrs.flatMap At.cells) :: pOwn b' vs' :: pRow 4 q (L.length + 1) cc (L.flatMap NdM.cells ++ m.cells) :: pMany (L.flatMap NdM.rows) :: cs)) :
    Sep w0 w (pRow 4 q (L ++ [m]).length cc ((L ++ [m]).flatMap NdM.cells) :: pMany ((L ++ [m]).flatMap NdM.rows) :: cs) := by
  have h5 := (Sep.node (m := m) (L := L) (cs := pRow 4 q (L.length + 1) cc (L.flatMap NdM.cells ++ m.cells) :: cs) (h.sel 7 [3, 1, 2, 6, 5])).front 1 rfl
  rw [nds_flat] at h5
  rw [List.length_append]
  exact h5
theorem Sep.putNode2 {w0 w : World} {cs : List Plot} {m : NdM} {L : List NdM} {b' : Nat} {vs' : List Value} {q : Option Addr} {cc : Nat} (h : Sep w0 w (pRow 2 m.ap m.attrs.length m.ac (m.attrs.flatMap At.cells) :: pRow 4 m.kp m.kids.len m.kc (m.kids.list.flatMap NdM.cells) :: pMany m.kids.rows :: pRow 4 q (L.length + 1) cc (L.flatMap NdM.cells ++ m.cells) :: pOwn b' vs' :: pMany (L.flatMap NdM.rows) :: cs)) :
    Sep w0 w (pRow 4 q (L ++ [m]).length cc ((L ++ [m]).flatMap NdM.cells) :: pMany ((L ++ [m]).flatMap NdM.rows) :: cs) := by
  have h5 := (Sep.node (m := m) (L := L) (cs := pRow 4 q (L.length + 1) cc (L.flatMap NdM.cells ++ m.cells) :: cs) (h.sel 6 [0, 1, 2, 5, 3])).front 1 rfl
  rw [nds_flat] at h5
  rw [List.length_append]
  exact h5
theorem oneText_ok (n : List UInt8) (u v x : Value) (w : World) : PureC Tryd.prog 45 #[.agg ⟨[str n, u, v, x]⟩] w (.bool (decide (n = []))) := by
  have hS := Sep.start w
  refine enter (l := [.agg ⟨[str n, u, v, x]⟩]) Tryd.func45 rfl Tryd.ntmps45 (by kernel_rfl) rfl ?_
  refine sgo ?_
  refine sbox (v := .agg ⟨[str n, u, v, x]⟩) hS fun b1 w1 hS => ?_
  replace hS : Sep w w1 [pOwn b1 [str n, u, v, x]] := hS
  refine sgo ?_
  (first | refine fp1 (.inl rfl) rfl rfl ?_ | refine fp2 (.inl rfl) rfl rfl rfl ?_ | refine fp3 (.inl rfl) rfl rfl rfl rfl ?_ | refine fp0 (.inr rfl) rfl ?_ | refine fp0 (.inl rfl) rfl ?_ | refine fp1 (.inr rfl) rfl rfl ?_); refine ⟨?_, by (first | exact Frm.refl _ | assumption | exact Go.Sv.Sep.frm (by assumption) | (refine Frm.trans ?_ (by assumption); first | exact Frm.refl _ | assumption))⟩; (try simp only [realB, rv_true, Nat.reduceBEq, cond_true, cond_false, entG, real_lif, updGL])
set_option maxHeartbeats 2000000 in
theorem own21_ok : ∀ (k : Nat) (f : FoM) (p : Option Addr) (c : Nat), f.size < k → f.wt ≤ 1048576 → ∀ (w0 w : World) (cs : List Plot), Sep w0 w cs → Tre w p f →
    CallsR Tryd.prog 39 #[.slice p f.len c] w fun v w' => ∃ (q : Option Addr) (cc : Nat) (L : List NdM), v = .slice q L.length cc ∧ L.map NdM.nd = f.list.map NdM.nd ∧ Frm w w' ∧ Sep w0 w' (pRow 4 q L.length cc (L.flatMap NdM.cells) :: pMany (L.flatMap NdM.rows) :: cs) := by
  intro k
  induction k with
  | zero => intro f p c hk; omega
  | succ k ih =>
    intro f p c hk hw w0 w cs hS0 hT
    have hlw := FoM.len_wt f
    have hS := ((Sep.start w).zero).push (c := pRow 4 none 0 0 []) (Frm.refl _) (Row.nil _ 4) (rb_nil _)
    refine enter (l := [.slice p f.len c]) Tryd.func39 rfl Tryd.ntmps39 (by kernel_rfl) rfl ?_
    refine sgo ?_
    refine wcloop (X := Nat × Option Addr × Nat × List NdM) (fun x => [(3, .slice x.2.1 x.2.2.2.length x.2.2.1), (6, .slice p f.len c), (7, int f.len), (8, int x.1)])
      (fun x wr => x.1 ≤ f.len ∧ x.2.2.2.length = x.1 ∧ x.2.2.2.map NdM.nd = (f.list.map NdM.nd).take x.1 ∧ Sep w wr [pRow 4 x.2.1 x.2.2.2.length x.2.2.1 (x.2.2.2.flatMap NdM.cells), pMany (x.2.2.2.flatMap NdM.rows)])
      (fun x => f.len - x.1) (0, none, 0, []) ⟨rfl, rfl, rfl, rfl, trivial⟩ ⟨Nat.zero_le _, rfl, rfl, hS⟩ ?_
    clear hS
    rintro ⟨i, q, cc, L⟩ wr ρ ⟨hil, hLi, hev, hS⟩
    dsimp only at *
    refine sgo ?_
    (show WC _ _ _ _ _ _ _; first | refine WC_dec rfl (fun hc => ?_) (fun hc => ?_) | refine WC_cond rfl (fun hc => ?_) (fun hc => ?_))
    · have hlt : i < f.len := by omega
      have hTw := hT.frm hS.frm
      have hIm := hTw.im
      obtain ⟨m, hx, hm, hseg, hfl, hps, hat, hkT⟩ := tre_at hT hlt
      have hsz := FoM.size_mem hm
      have hsm := nd_small hw hm
      have hih := fun w' (cs' : List Plot) (h : Sep w w' cs') => ih m.kids m.kp m.kc (by omega) hsm.kids w w' cs' h (hkT.frm h.frm)
      have htk : (f.list.map NdM.nd).take (i + 1) = (f.list.map NdM.nd).take i ++ [m.nd] := by rw [List.take_add_one, List.getElem?_map, hx]; rfl
      have hes := hsm.attrs
      have hl1 := fm_len At.len m.attrs
      obtain ⟨n, t, es, ap, ac, ks, kp, kc⟩ := m
      dsimp only at hih hat hes hl1
      clear hc
      refine sgo ?_
      rw [hseg]
      refine salloc hS fun b5 w5 hS => ?_
      refine sgo ?_
      refine ssta (vs := [str n, str t, .slice ap es.length ac, .slice kp ks.len kc]) hS 0 fun w6 hS => ?_
      replace hS : Sep w w6 [pOwn b5 [str n, str t, .slice ap es.length ac, .slice kp ks.len kc], pRow 4 q L.length cc (L.flatMap NdM.cells), pMany (L.flatMap NdM.rows)] := hS
      refine sgo ?_
      refine sapp0 hS (hat.sep hS).sg (fun q2 c2 w10 hS => ?_) (hl := by omega) (h1 := att_one es)
      refine sgo ?_
      refine sst_slice hS 1 fun w11 hS => ?_
      replace hS : Sep w w11 [pRow 2 q2 es.length c2 (es.flatMap At.cells), pOwn b5 [str n, str t, .slice q2 es.length c2, .slice kp ks.len kc], pRow 4 q L.length cc (L.flatMap NdM.cells), pMany (L.flatMap NdM.rows)] := hS
      refine sgo ?_
      refine wlcall (hih w11 _ hS) ?_
      rintro _ w12 ⟨q3, c3, K, rfl, hK, -, hS⟩
      refine sgo ?_
      refine sst_slice hS 3 fun w13 hS => ?_
      replace hS : Sep w w13 [pRow 4 q3 K.length c3 (K.flatMap NdM.cells), pMany (K.flatMap NdM.rows), pRow 2 q2 es.length c2 (es.flatMap At.cells), pOwn b5 [str n, str t, .slice q2 es.length c2, .slice q3 K.length c3], pRow 4 q L.length cc (L.flatMap NdM.cells), pMany (L.flatMap NdM.rows)] := hS
      refine sgo ?_
      refine sb1a (vs := [str n, str t, .slice q2 es.length c2, .slice q3 K.length c3]) hS fun b12 w14 hS => ?_
      refine sgo ?_
      refine sapp hS 5 (hS.own 0 rfl).sg (fun q4 c4 w15 hS => ?_) (h1 := by simp [Value.oneCell'])
      refine sgo ?_
      have hnx := Sep.putNode (m := ⟨n, t, es, q2, c2, .of K, q3, c3⟩) (L := L) (b := b12) (b' := b5) (q := q4) (cc := c4) (by rw [NdM.cells, len_of, FoM.list_of, rows_of]; exact hS)
      refine ⟨(i + 1, q4, c4, L ++ [⟨n, t, es, q2, c2, .of K, q3, c3⟩]), ⟨by dsimp only; rw [List.length_append]; rfl, rfl, rfl, rfl, trivial⟩, ⟨hlt, by simp [hLi], ?_, hnx⟩, (by (try dsimp only); omega)⟩
      dsimp only
      rw [htk, List.map_append, hev, List.map_cons, List.map_nil]
      congr 2
      show Nd.mk n t es (FoM.of K).fo = Nd.mk n t es ks.fo
      rw [fo_of, hK, ← fo_list]
    · obtain rfl : i = f.len := by omega
      refine sgo ?_
      (first | refine fp1 (.inl rfl) rfl rfl ?_ | refine fp2 (.inl rfl) rfl rfl rfl ?_ | refine fp3 (.inl rfl) rfl rfl rfl rfl ?_ | refine fp0 (.inr rfl) rfl ?_ | refine fp0 (.inl rfl) rfl ?_ | refine fp1 (.inr rfl) rfl rfl ?_)
      refine ⟨q, cc, L, rfl, ?_, hS.frm, hS0.seq (ds := [_, _]) hS⟩
      rw [hev]
      exact List.take_of_length_le (by rw [List.length_map]; exact Nat.le_refl _)
end Go.Proofs.YtcdogceabkpnmaaDoor

/-
  Packages token and sieveref07: Equal, Attr, SameAttrs; sievelaw07: TokenChecks.
-/
set_option linter.unusedSimpArgs false
set_option linter.unusedVariables false
set_option linter.unnecessarySimpa false
namespace Go.Proofs.YtcdogceabkpnmaaDoor
open Go Go.Sv Go.RowKit

def eqR (a b : Tok) : Bool := decide (a.kind = b.kind) && (decide (a.name = b.name) && (decide (a.text = b.text) && (decide (a.self = b.self) && decide (a.attrs = b.attrs))))
theorem at_get0 {es : List At} {i : Nat} {x : At} (hx : es[i]? = some x) : (es.flatMap At.cells)[i * 2]? = some (str x.n) := by
  have := fm_get At.len es i 0 (by omega)
  rw [Nat.add_zero, hx] at this
  exact this
theorem at_get1 {es : List At} {i : Nat} {x : At} (hx : es[i]? = some x) : (es.flatMap At.cells)[i * 2 + 1]? = some (str x.v) := by
  have := fm_get At.len es i 1 (by omega)
  rw [hx] at this
  exact this
theorem at_ext {x y : At} : x = y ↔ x.n = y.n ∧ x.v = y.v := by cases x; cases y; simp
theorem take_eq_succ {α : Type} {l l' : List α} {i : Nat} {x : α} (h : l.take i = l'.take i) (hx : l[i]? = some x) (hy : l'[i]? = some x) : l.take (i + 1) = l'.take (i + 1) := by
  rw [List.take_add_one, List.take_add_one, h, hx, hy]

set_option maxHeartbeats 2000000 in
theorem sameAttrs_ok (es fs : List At) (p q : Option Addr) (c c' : Nat) (hb : es.length ≤ 1048576) (hb' : fs.length ≤ 1048576) (w : World) (hi : Im [] w p (es.flatMap At.cells)) (hj : Im [] w q (fs.flatMap At.cells)) :
    PureC Tryd.prog 42 #[.slice p es.length c, .slice q fs.length c'] w (.bool (decide (es = fs))) := by
  have hl1 := fm_len At.len es
  have hl2 := fm_len At.len fs
  refine enter (l := [.slice p es.length c, .slice q fs.length c']) Tryd.func42 rfl Tryd.ntmps42 (by kernel_rfl) rfl ?_
  refine sgo ?_
  (show WC _ _ _ _ _ _ _; first | refine WC_dec rfl (fun hc => ?_) (fun hc => ?_) | refine WC_cond rfl (fun hc => ?_) (fun hc => ?_))
  · refine sgo ?_
    (first | refine fp1 (.inl rfl) rfl rfl ?_ | refine fp2 (.inl rfl) rfl rfl rfl ?_ | refine fp3 (.inl rfl) rfl rfl rfl rfl ?_ | refine fp0 (.inr rfl) rfl ?_ | refine fp0 (.inl rfl) rfl ?_ | refine fp1 (.inr rfl) rfl rfl ?_); refine ⟨?_, by (first | exact Frm.refl _ | assumption | exact Go.Sv.Sep.frm (by assumption) | (refine Frm.trans ?_ (by assumption); first | exact Frm.refl _ | assumption))⟩; (try simp only [realB, rv_true, Nat.reduceBEq, cond_true, cond_false, entG, real_lif, updGL])
    rw [decide_eq_false]
    rintro rfl
    exact hc rfl
  have hle : es.length = fs.length := by
    have : ¬ ((es.length : Int) ≠ fs.length) := hc
    omega
  clear hc
  refine sgo ?_
  refine wcloop (X := Nat) (fun i => [(0, .slice p es.length c), (1, .slice q fs.length c'), (12, int es.length), (13, int i)]) (fun i wr => i ≤ es.length ∧ es.take i = fs.take i ∧ Frm w wr) (fun i => es.length - i) 0 ⟨rfl, rfl, rfl, rfl, trivial⟩ ⟨by omega, rfl, Frm.refl _⟩ ?_
  rintro i wr ρ ⟨hil, htk, hf⟩
  have hIr := hi.frm hf
  have hJr := hj.frm hf
  refine sgo ?_
  (show WC _ _ _ _ _ _ _; first | refine WC_dec rfl (fun hc => ?_) (fun hc => ?_) | refine WC_cond rfl (fun hc => ?_) (fun hc => ?_))
  · have hlt : i < es.length := by omega
    have hx : es[i]? = some es[i] := List.getElem?_eq_getElem hlt
    have hy : fs[i]? = some fs[i] := List.getElem?_eq_getElem (by omega)
    generalize es[i] = x at *
    generalize fs[i] = y at *
    have g0 := at_get0 hx
    have g1 := at_get1 hx
    have k0 := at_get0 hy
    have k1 := at_get1 hy
    refine sgo ?_
    (first | refine WC_seq ?_ | skip); refine wcdraw ?_
    refine qgo ?_
    refine QL_nil ?_; intro wd hwd
    have hfd := hf.trans hwd
    refine sgo ?_
    (show WC _ _ _ _ _ _ _; first | refine WC_dec rfl (fun hc => ?_) (fun hc => ?_) | refine WC_cond rfl (fun hc => ?_) (fun hc => ?_))
    · refine sgo ?_
      (first | refine fp1 (.inl rfl) rfl rfl ?_ | refine fp2 (.inl rfl) rfl rfl rfl ?_ | refine fp3 (.inl rfl) rfl rfl rfl rfl ?_ | refine fp0 (.inr rfl) rfl ?_ | refine fp0 (.inl rfl) rfl ?_ | refine fp1 (.inr rfl) rfl rfl ?_); refine ⟨?_, by (first | exact Frm.refl _ | assumption | exact Go.Sv.Sep.frm (by assumption) | (refine Frm.trans ?_ (by assumption); first | exact Frm.refl _ | assumption))⟩; (try simp only [realB, rv_true, Nat.reduceBEq, cond_true, cond_false, entG, real_lif, updGL])
      rw [decide_eq_false]
      rintro rfl
      rw [hx] at hy
      obtain rfl := Option.some.inj hy
      revert hc; simp [pkb]
    · refine sgo ?_
      refine ⟨i + 1, ⟨rfl, rfl, rfl, rfl, trivial⟩, ⟨by omega, ?_, hfd⟩, by omega⟩
      have hxy : x = y := by
        rw [at_ext]
        revert hc; simp [pkb]
      rw [← hxy] at hy
      exact take_eq_succ htk hx hy
  · refine sgo ?_
    (first | refine fp1 (.inl rfl) rfl rfl ?_ | refine fp2 (.inl rfl) rfl rfl rfl ?_ | refine fp3 (.inl rfl) rfl rfl rfl rfl ?_ | refine fp0 (.inr rfl) rfl ?_ | refine fp0 (.inl rfl) rfl ?_ | refine fp1 (.inr rfl) rfl rfl ?_); refine ⟨?_, by (first | exact Frm.refl _ | assumption | exact Go.Sv.Sep.frm (by assumption) | (refine Frm.trans ?_ (by assumption); first | exact Frm.refl _ | assumption))⟩; (try simp only [realB, rv_true, Nat.reduceBEq, cond_true, cond_false, entG, real_lif, updGL])
    rw [decide_eq_true]
    rwa [List.take_of_length_le (by omega), List.take_of_length_le (by omega)] at htk















































































































def attrR (es : List At) (n : List UInt8) : Option At := es.find? fun x => decide (x.n = n)
def attrV (o : Option At) : Value := match o with | some x => .tuple #[str x.v, .bool true] | none => .tuple #[str [], .bool false]










































end Go.Proofs.YtcdogceabkpnmaaDoor

/-
  Chapter 21: Equal of trees, dom's and the document's.
-/
set_option linter.unusedSimpArgs false
set_option linter.unusedVariables false
set_option linter.unnecessarySimpa false
namespace Go.Proofs.YtcdogceabkpnmaaDoor
open Go Go.Sv Go.RowKit

instance ndDec : DecidableEq Nd := fun a b => decidable_of_iff (a.name = b.name ∧ a.text = b.text ∧ a.attrs = b.attrs ∧ a.kids = b.kids) ⟨fun h => by
  obtain ⟨n, t, es, ks⟩ := a
  obtain ⟨n2, t2, es2, ks2⟩ := b
  obtain ⟨h1, h2, h3, h4⟩ := h
  dsimp only at h1 h2 h3 h4
  rw [h1, h2, h3, h4], fun h => by rw [h]; exact ⟨rfl, rfl, rfl, rfl⟩⟩
theorem nds_eq_len {f g : FoM} (h : f.fo = g.fo) : f.len = g.len := by
  have h2 := congrArg List.length (fo_inj.1 h)
  rw [List.length_map, List.length_map] at h2
  exact h2
theorem nds_next {f g : FoM} {i : Nat} {m m2 : NdM} (hx : f.list[i]? = some m) (hy : g.list[i]? = some m2) :
    (m.nd ≠ m2.nd → f.fo ≠ g.fo) ∧ (m.nd = m2.nd → (f.list.map NdM.nd).take i = (g.list.map NdM.nd).take i → (f.list.map NdM.nd).take (i + 1) = (g.list.map NdM.nd).take (i + 1)) := by
  have hmx : (f.list.map NdM.nd)[i]? = some m.nd := by rw [List.getElem?_map, hx]; rfl
  have hmy : (g.list.map NdM.nd)[i]? = some m2.nd := by rw [List.getElem?_map, hy]; rfl
  refine ⟨fun h h2 => ?_, fun h hp => ?_⟩
  · rw [fo_inj.1 h2, hmy] at hmx
    exact h (Option.some.inj hmx).symm
  · rw [List.take_add_one, List.take_add_one, hmx, hmy, hp, h]
theorem nds_all {f g : FoM} (hl : f.len = g.len) (h : (f.list.map NdM.nd).take f.len = (g.list.map NdM.nd).take f.len) : f.fo = g.fo := by
  rw [List.take_of_length_le (by rw [List.length_map]; exact Nat.le_refl _), List.take_of_length_le (by rw [List.length_map, hl]; exact Nat.le_refl _)] at h
  exact fo_inj.2 h
end Go.Proofs.YtcdogceabkpnmaaDoor

/-
  Chapter 21: sieveref21: Equal, Depth, Count.
-/
set_option linter.unusedSimpArgs false
set_option linter.unusedVariables false
set_option linter.unnecessarySimpa false
namespace Go.Proofs.YtcdogceabkpnmaaDoor
open Go Go.Sv Go.RowKit

theorem nd_get {L : List NdM} {i : Nat} {m : NdM} (hx : L[i]? = some m) : (L.flatMap NdM.cells)[i * 4]? = some (str m.name) ∧ (L.flatMap NdM.cells)[i * 4 + 1]? = some (str m.text) ∧ (L.flatMap NdM.cells)[i * 4 + 2]? = some (.slice m.ap m.attrs.length m.ac) ∧ (L.flatMap NdM.cells)[i * 4 + 3]? = some (.slice m.kp m.kids.len m.kc) := by
  have g0 := fm_get NdM.clen L i 0 (by decide)
  have g1 := fm_get NdM.clen L i 1 (by decide)
  have g2 := fm_get NdM.clen L i 2 (by decide)
  have g3 := fm_get NdM.clen L i 3 (by decide)
  rw [hx] at g0 g1 g2 g3
  exact ⟨g0, g1, g2, g3⟩
set_option maxHeartbeats 4000000 in
theorem refEqual21_ok : ∀ (k : Nat) (f g : FoM) (p q : Option Addr) (c dd : Nat), f.size < k → f.wt ≤ 1048576 → g.wt ≤ 1048576 → ∀ (w : World), Tre w p f → Tre w q g → PureC Tryd.prog 14 #[.slice p f.len c, .slice q g.len dd] w (.bool (decide (f.fo = g.fo))) := by
  intro k
  induction k with
  | zero => intro f g p q c dd hk; omega
  | succ k ih =>
    intro f g p q c dd hk hw hw2 w hT hT2
    have hlw := FoM.len_wt f
    have hlw2 := FoM.len_wt g
    have hS := Sep.start w
    refine enter (l := [.slice p f.len c, .slice q g.len dd]) Tryd.func14 rfl Tryd.ntmps14 (by kernel_rfl) rfl ?_
    refine sgo ?_
    (show WC _ _ _ _ _ _ _; first | refine WC_dec rfl (fun hc => ?_) (fun hc => ?_) | refine WC_cond rfl (fun hc => ?_) (fun hc => ?_))
    · have hne : f.fo ≠ g.fo := fun h => hc (by rw [nds_eq_len h])
      refine sgo ?_
      (first | refine fp1 (.inl rfl) rfl rfl ?_ | refine fp2 (.inl rfl) rfl rfl rfl ?_ | refine fp3 (.inl rfl) rfl rfl rfl rfl ?_ | refine fp0 (.inr rfl) rfl ?_ | refine fp0 (.inl rfl) rfl ?_ | refine fp1 (.inr rfl) rfl rfl ?_); refine ⟨?_, by (first | exact Frm.refl _ | assumption | exact Go.Sv.Sep.frm (by assumption) | (refine Frm.trans ?_ (by assumption); first | exact Frm.refl _ | assumption))⟩; (try simp only [realB, rv_true, Nat.reduceBEq, cond_true, cond_false, entG, real_lif, updGL])
      rw [decide_eq_false hne]
    have hlen : f.len = g.len := by
      have : ¬ ((f.len : Int) ≠ g.len) := by simpa using hc
      omega
    clear hc
    refine sgo ?_
    refine wcloop (X := Nat) (fun i => [(0, .slice p f.len c), (1, .slice q g.len dd), (12, int f.len), (13, int i)])
      (fun i wr => i ≤ f.len ∧ (f.list.map NdM.nd).take i = (g.list.map NdM.nd).take i ∧ Sep w wr []) (fun i => f.len - i) 0 ⟨rfl, rfl, rfl, rfl, trivial⟩ ⟨Nat.zero_le _, rfl, hS⟩ ?_
    clear hS
    rintro i wr ρ ⟨hil, hpre, hS⟩
    have hTr := hT.frm hS.frm
    have hTr2 := hT2.frm hS.frm
    have hIm := hTr.im
    have hIm2 := hTr2.im
    refine sgo ?_
    (show WC _ _ _ _ _ _ _; first | refine WC_dec rfl (fun hc => ?_) (fun hc => ?_) | refine WC_cond rfl (fun hc => ?_) (fun hc => ?_))
    · have hlt : i < f.len := by omega
      have hlt2 : i < g.len := by omega
      obtain ⟨m, hx, hm, hseg, hfl, hps, hat, hkT⟩ := tre_at hTr hlt
      obtain ⟨m2, hx2, hm2, hseg2, hfl2, hqs, hat2, hkT2⟩ := tre_at hTr2 hlt2
      have hsz := FoM.size_mem hm
      have hsm := nd_small hw hm
      have hsm2 := nd_small hw2 hm2
      obtain ⟨hnf, hnx⟩ := nds_next hx hx2
      obtain ⟨g0, g1, g2, g3⟩ := nd_get hx
      obtain ⟨k0, k1, k2, k3⟩ := nd_get hx2
      have hih := fun w' (h : Frm wr w') => ih m.kids m2.kids m.kp m2.kp m.kc m2.kc (by omega) hsm.kids hsm2.kids w' (hkT.frm h) (hkT2.frm h)
      have hsa := fun w' (h : Frm wr w') => sameAttrs_ok m.attrs m2.attrs m.ap m2.ap m.ac m2.ac hsm.attrs hsm2.attrs w' (hat.frm h) (hat2.frm h)
      have hnd := nd_eq m m2
      obtain ⟨n, t, es, ap, ac, ks, kp, kc⟩ := m
      obtain ⟨n2, t2, fs, bp, bc, ks2, kp2, kc2⟩ := m2
      dsimp only at *
      clear hc
      refine sgo ?_
      refine wcdraw ?_
      refine qgo ?_
      refine qlcallgp (vals := [.slice ap es.length ac, .slice bp fs.length bc]) (v := .bool (decide (es = fs))) (fun hg w' hw' => hsa w' hw') ?_
      refine qgo ?_
      refine QL_nil ?_; intro wd hwd
      replace hS := hS.grow hwd
      refine sgo ?_
      (show WC _ _ _ _ _ _ _; first | refine WC_dec rfl (fun hc => ?_) (fun hc => ?_) | refine WC_cond rfl (fun hc => ?_) (fun hc => ?_))
      · have hne : ¬ NdM.nd ⟨n, t, es, ap, ac, ks, kp, kc⟩ = NdM.nd ⟨n2, t2, fs, bp, bc, ks2, kp2, kc2⟩ := by
          intro h
          obtain ⟨e1, e2, e3, e4⟩ := hnd.1 h
          subst e1 e2 e3
          simp [pkb_or] at hc
        refine sgo ?_
        (first | refine fp1 (.inl rfl) rfl rfl ?_ | refine fp2 (.inl rfl) rfl rfl rfl ?_ | refine fp3 (.inl rfl) rfl rfl rfl rfl ?_ | refine fp0 (.inr rfl) rfl ?_ | refine fp0 (.inl rfl) rfl ?_ | refine fp1 (.inr rfl) rfl rfl ?_); refine ⟨?_, by (first | exact Frm.refl _ | assumption | exact Go.Sv.Sep.frm (by assumption) | (refine Frm.trans ?_ (by assumption); first | exact Frm.refl _ | assumption))⟩; (try simp only [realB, rv_true, Nat.reduceBEq, cond_true, cond_false, entG, real_lif, updGL])
        rw [decide_eq_false (hnf hne)]
      · simp [pkb_or] at hc
        obtain ⟨⟨rfl, rfl⟩, rfl⟩ := hc
        have hTq := hTr.frm hwd
        have hTq2 := hTr2.frm hwd
        have hImq := hTq.im
        have hImq2 := hTq2.im
        refine sgo ?_
        refine wcdraw ?_
        refine qgo ?_
        refine qlcallp (v := .bool (decide (ks.fo = ks2.fo))) (fun w' hw' => ?_) ?_
        · exact hih w' (hwd.trans hw')
        refine qgo ?_
        refine QL_nil ?_
        intro w4 hf4
        replace hS := hS.grow hf4
        refine sgo ?_
        (show WC _ _ _ _ _ _ _; first | refine WC_dec rfl (fun hc => ?_) (fun hc => ?_) | refine WC_cond rfl (fun hc => ?_) (fun hc => ?_))
        · have hne : ¬ NdM.nd ⟨n, t, es, ap, ac, ks, kp, kc⟩ = NdM.nd ⟨n, t, es, bp, bc, ks2, kp2, kc2⟩ := by
            intro h
            obtain ⟨e1, e2, e3, e4⟩ := hnd.1 h
            simp [e4] at hc
          refine sgo ?_
          (first | refine fp1 (.inl rfl) rfl rfl ?_ | refine fp2 (.inl rfl) rfl rfl rfl ?_ | refine fp3 (.inl rfl) rfl rfl rfl rfl ?_ | refine fp0 (.inr rfl) rfl ?_ | refine fp0 (.inl rfl) rfl ?_ | refine fp1 (.inr rfl) rfl rfl ?_); refine ⟨?_, by (first | exact Frm.refl _ | assumption | exact Go.Sv.Sep.frm (by assumption) | (refine Frm.trans ?_ (by assumption); first | exact Frm.refl _ | assumption))⟩; (try simp only [realB, rv_true, Nat.reduceBEq, cond_true, cond_false, entG, real_lif, updGL])
          rw [decide_eq_false (hnf hne)]
        · have he : NdM.nd ⟨n, t, es, ap, ac, ks, kp, kc⟩ = NdM.nd ⟨n, t, es, bp, bc, ks2, kp2, kc2⟩ := hnd.2 ⟨rfl, rfl, rfl, by simpa using hc⟩
          refine sgo ?_
          exact ⟨i + 1, ⟨rfl, rfl, rfl, rfl, trivial⟩, ⟨hlt, hnx he hpre, hS⟩, (by (try dsimp only); omega)⟩
    · obtain rfl : i = f.len := by omega
      refine sgo ?_
      (first | refine fp1 (.inl rfl) rfl rfl ?_ | refine fp2 (.inl rfl) rfl rfl rfl ?_ | refine fp3 (.inl rfl) rfl rfl rfl rfl ?_ | refine fp0 (.inr rfl) rfl ?_ | refine fp0 (.inl rfl) rfl ?_ | refine fp1 (.inr rfl) rfl rfl ?_); refine ⟨?_, by (first | exact Frm.refl _ | assumption | exact Go.Sv.Sep.frm (by assumption) | (refine Frm.trans ?_ (by assumption); first | exact Frm.refl _ | assumption))⟩; (try simp only [realB, rv_true, Nat.reduceBEq, cond_true, cond_false, entG, real_lif, updGL])
      rw [decide_eq_true (nds_all hlen hpre)]
end Go.Proofs.YtcdogceabkpnmaaDoor

/-
  Trees merged: the plain part (chapter 21).
-/
set_option linter.unusedSimpArgs false
set_option linter.unusedVariables false
set_option linter.unnecessarySimpa false
namespace Go.Proofs.YtcdogceabkpnmaaDoor
open Go Go.Sv Go.RowKit
/-- a text node behind others -/
def putT (out : List Nd) (t : List UInt8) (es : List At) (ks : Fo) : List Nd :=
  if t = [] then out else match out.getLast? with
    | some m => if m.name = [] then out.dropLast ++ [{ m with text := m.text ++ t }] else out ++ [⟨[], t, es, ks⟩]
    | none => [⟨[], t, es, ks⟩]
/-- neighbouring texts in one, at every depth, behind others -/
def Fo.merge : Fo → List Nd → List Nd
  | .nil, out => out
  | .cons n t es ks r, out => r.merge (if n = [] then putT out t es ks else out ++ [⟨n, t, es, .of (ks.merge [])⟩])
def Fo.txt : Fo → List UInt8
  | .nil => []
  | .cons n t _ ks r => (if n = [] then t else ks.txt) ++ r.txt
def Fo.elems : Fo → Nat
  | .nil => 0
  | .cons n _ _ ks r => (if n = [] then 0 else 1 + ks.elems) + r.elems
def Fo.texts : Fo → Nat
  | .nil => 0
  | .cons n _ _ ks r => (if n = [] then 1 else ks.texts) + r.texts
def ndTxt (m : Nd) : List UInt8 := if m.name = [] then m.text else m.kids.txt
def ndEl (m : Nd) : Nat := if m.name = [] then 0 else 1 + m.kids.elems
/-- does a list begin with a text? -/
def Fo.isT : Fo → Bool
  | .nil => false
  | .cons n _ _ _ _ => decide (n = [])
/-- merged as it is -/
def Fo.ok : Fo → Prop
  | .nil => True
  | .cons n t _ ks r => (if n = [] then t ≠ [] ∧ r.isT = false else ks.ok) ∧ r.ok
def lastT (l : List Nd) : Bool := match l.getLast? with | some m => decide (m.name = []) | none => false
def ndOk (m : Nd) : Prop := if m.name = [] then m.text ≠ [] else m.kids.ok
end Go.Proofs.YtcdogceabkpnmaaDoor

/-
  Chapter 21: Depth, Count, Text of trees.
-/
set_option linter.unusedSimpArgs false
set_option linter.unusedVariables false
set_option linter.unnecessarySimpa false
namespace Go.Proofs.YtcdogceabkpnmaaDoor
open Go Go.Sv Go.RowKit

def ndTx (m : Nd) : Nat := if m.name = [] then 1 else m.kids.texts
theorem cnt_wt (f : FoM) : f.fo.elems + f.fo.texts ≤ f.wt := by
  induction f with
  | nil => exact Nat.le_refl _
  | cons n t es ap ac ks kp kc r ih1 ih2 =>
    simp only [FoM.fo, Fo.elems, Fo.texts, FoM.wt]
    split <;> omega
/-- the nodes up to a place -/
def ndT (f : FoM) (i : Nat) : List Nd := (f.list.map NdM.nd).take i
theorem ndT_succ {f : FoM} {i : Nat} {m : NdM} (h : f.list[i]? = some m) : ndT f (i + 1) = ndT f i ++ [m.nd] := by
  unfold ndT
  rw [List.take_add_one, List.getElem?_map, h]; rfl
theorem ndT_all (f : FoM) : ndT f f.len = f.list.map NdM.nd := List.take_of_length_le (by rw [List.length_map]; exact Nat.le_refl _)
def elT (f : FoM) (i : Nat) : Nat := ((ndT f i).map ndEl).sum
def txT (f : FoM) (i : Nat) : Nat := ((ndT f i).map ndTx).sum
def strT (f : FoM) (i : Nat) : List UInt8 := (ndT f i).flatMap ndTxt
theorem dN_all (f : FoM) : dN (ndT f f.len) = f.fo.depth := by rw [ndT_all, fo_list, dN_of]
theorem dNT_le (f : FoM) (i : Nat) : dN (ndT f i) ≤ f.wt := by
  have key : ∀ (l : List Nd) (i : Nat), dN (l.take i) ≤ dN l := by
    intro l
    induction l with
    | nil => intro i; simp
    | cons m l ih =>
      intro i
      cases i with
      | zero => simp [dN]
      | succ i => have := ih i; simp only [List.take_succ_cons, dN]; omega
  have h2 := key (f.list.map NdM.nd) i
  have h3 := dN_all f
  rw [ndT_all] at h3
  have h4 := depth_wt f
  unfold ndT
  omega
def nW (m : Nd) : Nat := 4 + m.name.length + m.text.length + (m.attrs.map At.wt).sum + m.kids.wt
set_option maxHeartbeats 2000000 in
theorem domDepth_ok : ∀ (k : Nat) (f : FoM) (p : Option Addr) (c : Nat), f.size < k → f.wt ≤ 1048576 → ∀ (w : World), Tre w p f → PureC Tryd.prog 28 #[.slice p f.len c] w (int f.fo.depth) := by
  intro k
  induction k with
  | zero => intro f p c hk; omega
  | succ k ih =>
    intro f p c hk hw w hT
    have hlw := FoM.len_wt f
    have hS := Sep.start w
    refine enter (l := [.slice p f.len c]) Tryd.func28 rfl Tryd.ntmps28 (by kernel_rfl) rfl ?_
    refine sgo ?_
    refine wcloop (X := Nat) (fun i => [(3, int (dN (ndT f i))), (6, .slice p f.len c), (7, int f.len), (8, int i)]) (fun i wr => i ≤ f.len ∧ Sep w wr []) (fun i => f.len - i) 0 ⟨rfl, rfl, rfl, rfl, trivial⟩ ⟨Nat.zero_le _, hS⟩ ?_
    clear hS
    rintro i wr ρ ⟨hil, hS⟩
    have hdl := dNT_le f i
    refine sgo ?_
    (show WC _ _ _ _ _ _ _; first | refine WC_dec rfl (fun hc => ?_) (fun hc => ?_) | refine WC_cond rfl (fun hc => ?_) (fun hc => ?_))
    · have hlt : i < f.len := by omega
      have hTw := hT.frm hS.frm
      have hIm := hTw.im
      obtain ⟨m, hx, hm, hseg, hfl, hps, hat, hkT⟩ := tre_at hT hlt
      have hsn : dN (ndT f (i + 1)) = max (dN (ndT f i)) (dNd m.nd) := by rw [ndT_succ hx, dN_snoc]
      have hsz := FoM.size_mem hm
      have hsm := nd_small hw hm
      have hih := fun w' (cs' : List Plot) (h : Sep w w' cs') => ih m.kids m.kp m.kc (by omega) hsm.kids w' (hkT.frm h.frm)
      have hkd := depth_wt m.kids
      have hkw := hsm.kids
      obtain ⟨n, t, es, ap, ac, ks, kp, kc⟩ := m
      dsimp only [dNd, NdM.nd] at hih hsn hkd hkw
      clear hc
      refine sgo ?_
      rw [hseg]
      refine salloc hS fun b5 w5 hS => ?_
      refine sgo ?_
      refine ssta (vs := [str n, str t, .slice ap es.length ac, .slice kp ks.len kc]) hS 0 fun w6 hS => ?_
      replace hS : Sep w w6 [pOwn b5 [str n, str t, .slice ap es.length ac, .slice kp ks.len kc]] := hS
      refine sgo ?_
      refine wlbuild (cells := [str n, str t, .slice ap es.length ac, .slice kp ks.len kc]) ?_
      refine wlpure (oneText_ok n (str t) (.slice ap es.length ac) (.slice kp ks.len kc) _) fun w7 hf7 => ?_
      replace hS := hS.grow hf7
      refine sgo ?_
      (show WC _ _ _ _ _ _ _; first | refine WC_dec rfl (fun hc => ?_) (fun hc => ?_) | refine WC_cond rfl (fun hc => ?_) (fun hc => ?_))
      · have hn : ¬ n = [] := by simpa using hc
        rw [if_neg hn] at hsn
        refine sgo ?_
        refine wlpure (hih _ _ hS) fun w8 hf8 => ?_
        replace hS := hS.grow hf8
        refine sgo ?_
        refine wl ?_ (y_max rfl rfl)
        refine sgo ?_
        refine ⟨i + 1, ⟨?_, rfl, rfl, rfl, trivial⟩, ⟨hlt, hS.tail⟩, (by (try dsimp only); omega)⟩
        show int _ = int _
        rw [hsn]; congr 1; omega
      · have hn : n = [] := by simpa using hc
        rw [if_pos hn, Nat.max_zero] at hsn
        refine sgo ?_
        refine ⟨i + 1, ⟨?_, rfl, rfl, rfl, trivial⟩, ⟨hlt, hS.tail⟩, (by (try dsimp only); omega)⟩
        show int _ = int _
        rw [hsn]
    · obtain rfl : i = f.len := by omega
      rw [dN_all] at *
      refine sgo ?_
      (first | refine fp1 (.inl rfl) rfl rfl ?_ | refine fp2 (.inl rfl) rfl rfl rfl ?_ | refine fp3 (.inl rfl) rfl rfl rfl rfl ?_ | refine fp0 (.inr rfl) rfl ?_ | refine fp0 (.inl rfl) rfl ?_ | refine fp1 (.inr rfl) rfl rfl ?_); refine ⟨?_, by (first | exact Frm.refl _ | assumption | exact Go.Sv.Sep.frm (by assumption) | (refine Frm.trans ?_ (by assumption); first | exact Frm.refl _ | assumption))⟩; (try simp only [realB, rv_true, Nat.reduceBEq, cond_true, cond_false, entG, real_lif, updGL])
end Go.Proofs.YtcdogceabkpnmaaDoor

/-
  Regions that draw their order, by a plan for the first operations; the rest in order.
-/
set_option linter.unusedSimpArgs false
set_option linter.unusedVariables false
set_option linter.unnecessarySimpa false
namespace Go.Sv
open Go Go.RowKit
/-- the first n1 are done, the rest not -/
def heads (n1 size : Nat) : Array Bool := ((List.range size).map fun i => decide (i < n1)).toArray
section
variable {P : Program} {n : Nat} {ds : Ctx} {Q : Exit → Ctx → Env → World → Prop} {S : (Nat → Bool) → Env → World → Prop} {σ : Env} {w : World} {m : Nat}
theorem wpAnyIn_of_seqF {F : Fence} {md : Region.Mode} {ops : Array Oper} {Q' : Exit → Act → World → Prop} : ∀ (l : List Oper) (k : Nat) (listed : Array Bool) (a : Act) (w : World), (∀ j, l[j]? = ops[k + j]?) →
    Region.seqB md ops l.length k listed = true → wpListIn F m P ops Q' l a w → wpAnyIn F m P md ops Q' l.length listed a w
  | [], _, _, _, _, _, hB, h => ⟨by simpa [Region.seqB] using hB, h⟩
  | o :: l, k, listed, a, w, hl, hB, h => by
    have h0 : ops[k]? = some o := by simpa using (hl 0).symm
    simp only [List.length_cons, Region.seqB, Bool.and_eq_true, decide_eq_true_eq] at hB
    refine ⟨fun h1 => (by rw [hB.1] at h1; cases h1), fun i hi => ?_⟩
    rw [hB.1] at hi
    have hik : i = k := by simpa using hi
    subst hik
    have hw : wpOpIn F m P ops Q' i (wpListIn F m P ops Q' l) a w := by unfold wpOpIn; simp only [h0]; exact h
    exact wpOpIn_mono (fun a' w' h' => wpAnyIn_of_seqF l (i + 1) _ a' w' (fun j => by have := hl (j + 1); simpa [Nat.add_assoc, Nat.add_comm 1 j] using this) hB.2 h') hw
theorem wpAnyIn_of_IT {ops : Array Oper} {dd : List Deferred} {Q' : Exit → Act → World → Prop} {n1 : Nat} {l2 : List Oper} {ro : Option Nat} (hs : Region.sinkB .any ops n1 = true) (hc : Region.chainB .any ops n1 = true) (hn : n1 < ops.size) (hf : fwdB ops = true)
    (hin : ops.toList.all (operIn n ro.isSome ops) = true) (hop : ∀ k o, k < n1 → ops[k]? = some o → StepI P ops S k o) (hl2 : ∀ j, l2[j]? = ops[n1 + j]?) (hB2 : Region.seqB .any ops l2.length n1 (heads n1 ops.size) = true)
    (hQ : ∀ L σ w, (∀ k, k < n1 → L k = true) → (∀ k, n1 ≤ k → L k = false) → S L σ w → wpListIn (fen ro) m P ops Q' l2 (act n dd σ) w) :
    ∀ (f : Nat) (listed : Array Bool) (σ : Env) (w : World), HeadInv .any ops n1 listed → (listed.toList.take n1).count false = f → S (fl listed) σ w → wpAnyIn (fen ro) m P .any ops Q' (f + l2.length) listed (act n dd σ) w
  | 0, listed, σ, w, inv, hcnt, hS => by
    have hsz := inv.size
    have hfirst : ∀ i, i < n1 → ∀ h : i < listed.size, listed[i] = true := by
      intro i hi h
      cases hb : listed[i] with
      | true => rfl
      | false =>
        exfalso
        have : false ∈ listed.toList.take n1 := by
          rw [List.mem_iff_getElem]
          exact ⟨i, by simp; omega, by simp [hb]⟩
        have := List.count_pos_iff.2 this
        omega
    have hrest : ∀ i, n1 ≤ i → ∀ h : i < listed.size, listed[i] = false := by
      intro i hi h
      have := inv.tail i hi (by omega)
      simpa [h] using this
    have he : listed = heads n1 ops.size := by
      apply Array.ext
      · simp [heads, hsz]
      · intro i h1 h2
        simp only [heads, List.getElem_toArray, List.getElem_map, List.getElem_range]
        rcases Nat.lt_or_ge i n1 with h | h
        · rw [hfirst i h h1, decide_eq_true h]
        · rw [hrest i h h1, decide_eq_false (by omega)]
    rw [Nat.zero_add]
    refine wpAnyIn_of_seqF l2 n1 listed _ w hl2 (by rw [he]; exact hB2) (hQ (fl listed) σ w (fun k hk => ?_) (fun k hk => ?_) hS)
    · have h1 : k < listed.size := by omega
      simp [fl, h1, hfirst k hk h1]
    · rcases Nat.lt_or_ge k listed.size with h1 | h1
      · simp [fl, h1, hrest k hk h1]
      · simp [fl, Array.getElem?_eq_none h1]
  | f + 1, listed, σ, w, inv, hcnt, hS => by
    have hsz := inv.size
    have hmem : false ∈ listed.toList.take n1 := List.count_pos_iff.1 (by omega)
    obtain ⟨u, hu1, hu2⟩ := List.mem_iff_getElem.1 hmem
    have hun : u < n1 := by simp at hu1; omega
    have hul : u < listed.size := by simp at hu1; omega
    have hu3 : listed[u] = false := by simpa using hu2
    rw [show f + 1 + l2.length = (f + l2.length) + 1 from by omega]
    refine ⟨fun hr => ?_, fun i hi => ?_⟩
    · exfalso
      have := ready_of_fwd hf hsz hr u (by omega)
      simp [fl, hul, hu3] at this
    · have hin1 : i < n1 := by
        rcases Nat.lt_or_ge i n1 with h | h
        · exact h
        · exact absurd hi (tail_waits hs hc hn inv _ u rfl hun (by simp [hul, hu3]) i h)
      obtain ⟨h0, o, ho, hall⟩ := mem_ready.1 hi
      have hio : i < ops.size := (Array.getElem?_eq_some_iff.1 ho).1
      have hlt : i < listed.size := by omega
      have h0' : listed[i] = false := by simpa [hlt] using h0
      have hup : Up ops o i (fl listed) := by
        refine ⟨by simp [fl, hlt, h0'], ?_, ?_⟩
        · intro j hj
          obtain ⟨e, he, hb, rfl⟩ := bindsOn_iff.1 hj
          exact hall e he hb
        · intro j oj hj hb
          cases hL : fl listed j with
          | false => rfl
          | true =>
            obtain ⟨e, he, hb1, hb2⟩ := bindsOn_iff.1 hb
            have h2 := inv.closed j oj hj hL e he hb1
            rw [hb2] at h2
            simp [hlt, h0'] at h2
      have hino : operIn n ro.isSome ops o = true := by
        rw [List.all_eq_true] at hin
        exact hin o (by simpa using Array.mem_of_getElem? ho)
      refine wpOpIn_of_I hino ho (hop i o hin1 ho _ σ w hup hS) fun v w' hw' => ?_
      rw [act_put (operIn_dst hino)]
      refine wpAnyIn_of_IT hs hc hn hf hin hop hl2 hB2 hQ f _ _ _ (inv.set hi hin1) ?_ (by rw [fl_set hlt]; exact hw')
      rw [Array.toList_setIfInBounds, List.take_set, List.count_set]
      · have hb : (listed.toList.take n1)[i]'(by simp; omega) = false := by simpa using h0'
        rw [hb]; simp only [beq_self_eq_true, if_true]; simp; omega
      · simp; omega
theorem wcdrawit [hm : Mix P] {id : Nat} {ops l2 : List Oper} (n1 : Nat) (S : (Nat → Bool) → Env → World → Prop) (h0 : ∀ wd, Frm w wd → S (fun _ => false) σ wd) (hop : ∀ k o, k < n1 → ops[k]? = some o → StepI P ops.toArray S k o)
    (hend : ∀ L σ' w', (∀ k, k < n1 → L k = true) → (∀ k, n1 ≤ k → L k = false) → S L σ' w' → WL P n ds ops.toArray Q l2 σ' w') (hl2 : ops.drop n1 = l2)
    (hB : Region.lexTailB .any ops.toArray n1 = true) (hB2 : Region.seqB .any ops.toArray l2.length n1 (heads n1 ops.toArray.size) = true) (hf : fwdB ops.toArray = true) : WC P n ds (.region id ops.toArray true) Q σ w := by
  obtain ⟨dd, ro⟩ := ds
  unfold WC
  intro hin
  have hin' : ops.all (operIn n ro.isSome ops.toArray) = true := by simpa [codeIn] using hin
  simp only [Region.lexTailB, Bool.and_eq_true, decide_eq_true_eq] at hB
  obtain ⟨⟨⟨⟨hsel, hn⟩, hs⟩, hc⟩, hlex⟩ := hB
  refine wpIn_region_any hm.ok ?_
  have e0 : fl (Array.replicate ops.toArray.size false) = fun _ => false := by funext k; exact getD_replicate_false _ _
  have inv0 : HeadInv .any ops.toArray n1 (Array.replicate ops.toArray.size false) :=
    ⟨by simp, fun j oj _ hl => (by rw [getD_replicate_false] at hl; cases hl), fun t _ h9 => getD_in (by simp only [Array.size_replicate]; exact h9) (getD_replicate_false _ _)⟩
  have hl3 : ∀ j : Nat, l2[j]? = ops.toArray[n1 + j]? := fun j => by subst hl2; simp
  have hnl : n1 < ops.length := by simpa using hn
  have hsum : ops.toArray.size = n1 + l2.length := by subst hl2; simp; omega
  have := wpAnyIn_of_IT (S := S) (n := n) (m := 0) (dd := dd) (l2 := l2) hs hc hn hf (by simpa using hin') (fun k o hk ho => hop k o hk (by simpa using ho)) hl3 hB2
    (fun L σ' w' h1 h2 h3 => by
      have hw := hend L σ' w' h1 h2 h3
      unfold WL at hw
      refine hw ?_
      rw [List.all_eq_true] at hin' ⊢
      intro x hx
      subst hl2
      exact hin' x (List.mem_of_mem_drop hx))
    n1 _ σ { w with drawn := w.drawn + 1 } inv0 (by simp; omega) (by rw [e0]; exact h0 _ (Frm.drawn (Frm.refl w)))
  rw [← hsum] at this
  exact this
variable {X : Type}
/-- a region that draws: a plan for the first n1, the rest in order -/
theorem wcplant [hm : Mix P] {w0 : World} {id : Nat} {ops l1 l2 : List Oper} {x : Oper} {cs b : List Plot} (n1 : Nat) (p : PlanB X) (d0 : PD X) (hS : Sep w0 w (b ++ cs)) (hb : (List.range ops.length).flatMap p.base = b)
    (hF : ∀ (j : Nat) (oj : Oper) (a a' : Nat → PD X), ops[j]? = some oj → a j = a' j → (∀ i, bindsOn oj i = true → a i = a' i) → p.fact j a → p.fact j a')
    (hR : p.Rules P w0 cs σ ops 0 l1)
    (hend : ∀ (a : Nat → PD X) σ' w', (∀ s, (∀ (k : Nat) (o : Oper), l1[k]? = some o → o.dst ≠ some s) → σ' s = σ s) → (∀ (k : Nat) (o : Oper), l1[k]? = some o → (∀ d, o.dst = some d → σ' d = (a k).v) ∧ p.fact k a) →
      Sep w0 w' (((List.range n1).filter fun j => (p.con j).isNone).flatMap (fun j => p.pl j (a j)) ++ cs) → WL P n ds ops.toArray Q (x :: l2) σ' w')
    (hp : Parts n1 ops l1 x l2 := by repeat (first | exact Go.Sv.Parts.zero | apply Go.Sv.Parts.step)) (hB : planB p.con ops = true := by kernel_rfl) (hcon : ((List.range n1).all fun j => match p.con j with | some c => decide (c < n1) | none => true) = true := by kernel_rfl) (hbase : (List.range' n1 (ops.length - n1)).flatMap p.base = [] := by rfl)
    (hBt : Region.lexTailB .any ops.toArray n1 = true := by kernel_rfl) (hB2 : Region.seqB .any ops.toArray (x :: l2).length n1 (heads n1 ops.toArray.size) = true := by kernel_rfl) (hf : fwdB ops.toArray = true := by kernel_rfl) : WC P n ds (.region id ops.toArray true) Q σ w := by
  have hl : ops.take n1 = l1 ∧ ops.drop n1 = x :: l2 := by
    obtain ⟨h1, h2⟩ := hp
    subst h1
    subst h2
    exact ⟨List.take_left, List.drop_left⟩
  have hn1 : n1 < ops.length := by
    simp only [Region.lexTailB, Bool.and_eq_true, decide_eq_true_eq] at hBt
    simpa using hBt.1.1.1.2
  have hget : ∀ k o, k < n1 → (ops[k]? = some o ↔ l1[k]? = some o) := by
    intro k o hk
    rw [← hl.1, List.getElem?_take, if_pos hk]
  have hlen : l1.length = n1 := by rw [← hl.1, List.length_take]; omega
  have hsteps := planb_steps hB hF l1 0 (fun j o h => by
    rw [Nat.zero_add]
    have hj : j < n1 := by rw [← hlen]; exact (List.getElem?_eq_some_iff.1 h).1
    exact (hget j o hj).2 h) hR
  refine wcdrawit n1 (p.S w0 cs σ ops) (fun wd hwd => ⟨fun _ _ => rfl, fun _ => d0, fun _ _ _ h => absurd h Bool.false_ne_true, ?_⟩) (fun k o hk ho => ?_) ?_ hl.2 hBt hB2 hf
  · have e : p.mem ops.length (fun _ => false) (fun _ => d0) = [] := by
      unfold PlanB.mem
      rw [List.filter_eq_nil_iff.2 (by intro j _; simp [PlanB.live])]
      rfl
    have e2 : p.bmem ops.length (fun _ => false) = b := by
      rw [← hb]; unfold PlanB.bmem
      rw [List.filter_eq_self.2 (by intro j _; rfl)]
    rw [e, e2]
    exact hS.grow hwd
  · have := stepsI_get hsteps k o ((hget k o hk).1 ho)
    rwa [Nat.zero_add] at this
  · rintro L σ' w' hL1 hL2 ⟨hσ, a, hA, hS'⟩
    have hk1 : ∀ {k : Nat} {o : Oper}, l1[k]? = some o → k < n1 := fun h => by rw [← hlen]; exact (List.getElem?_eq_some_iff.1 h).1
    refine hend a σ' w' (fun s hs => hσ s fun k o hk hLk => ?_) (fun k o hk => hA k o ((hget k o (hk1 hk)).2 hk) (hL1 k (hk1 hk))) ?_
    · rcases Nat.lt_or_ge k n1 with h | h
      · exact hs k o ((hget k o h).1 hk)
      · rw [hL2 k h] at hLk; cases hLk
    · have e2 : p.bmem ops.length L = [] := by
        unfold PlanB.bmem
        have hr : (List.range ops.length).filter (fun j => !L j) = List.range' n1 (ops.length - n1) := by
          have h1 : List.range ops.length = List.range n1 ++ List.range' n1 (ops.length - n1) := by
            rw [List.range_eq_range', List.range_eq_range']
            have := List.range'_append (s := 0) (m := n1) (n := ops.length - n1) (step := 1)
            simp only [Nat.zero_add, Nat.one_mul] at this
            rw [this]
            congr 1; omega
          rw [h1, List.filter_append, List.filter_eq_nil_iff.2 (by intro j hj; simp [hL1 j (List.mem_range.1 hj)]), List.filter_eq_self.2 (by intro j hj; simp [hL2 j (List.mem_range'_1.1 hj).1])]
          rfl
        rw [hr, hbase]
      rw [e2] at hS'
      refine hS'.perm (List.Perm.append_right _ (List.Perm.of_eq ?_))
      unfold PlanB.mem
      congr 1
      have h1 : List.range ops.length = List.range n1 ++ List.range' n1 (ops.length - n1) := by
        rw [List.range_eq_range', List.range_eq_range']
        have := List.range'_append (s := 0) (m := n1) (n := ops.length - n1) (step := 1)
        simp only [Nat.zero_add, Nat.one_mul] at this
        rw [this]
        congr 1; omega
      have h9 : (List.range' n1 (ops.length - n1)).filter (p.live L) = [] := List.filter_eq_nil_iff.2 (by intro j hj; simp [PlanB.live, hL2 j (List.mem_range'_1.1 hj).1])
      rw [h1, List.filter_append, h9, List.append_nil]
      refine List.filter_congr fun j hj => ?_
      have h2 := hL1 j (List.mem_range.1 hj)
      simp only [PlanB.live, h2, Bool.true_and]
      cases hc : p.con j with
      | none => rfl
      | some c =>
        have := List.all_eq_true.1 hcon j hj
        rw [hc] at this
        simp only [decide_eq_true_eq] at this
        simp [hL1 c this]
end
end Go.Sv

