/-
  Our texts SvNsI, SvKq, SvEvZ, SvEvQ, SvEvR, SvEvS, SvEd, SvJn, SvPt, SvSel, SvNsJ, SvNsK, SvNsL, SvTpA, SvTpD, SvRec3, SvRec, SvTpJ, SvPb, SvTpE, SvTpG, SvTpK, SvNsM, SvNsN, SvRtA, SvBsn, SvVw, SvRtB, SvRtC, SvInR, SvRtD, SvRtE, SvRtF, SvRtG, SvBaA, SvBaM, SvGc, SvBaC, joined.
-/
import Derived.Test.YtmnnffenijjpcaaDoorMg4
import Derived.RecoverIn
import Derived.WalkSmall
import Derived.Laws.Build
/-
  Package nest: item, own.
-/
set_option linter.unusedSimpArgs false
set_option linter.unusedVariables false
set_option linter.unnecessarySimpa false
namespace Go.Proofs.YtmnnffenijjpcaaDoor
open Go Go.Sv Go.RowKit

theorem take_succ_strs {w : World} {q : Option Addr} {u : List Nm} (h : Im [] w q (strs u)) (i : Nat) : Im [] w q (strs (u.take i)) := by rw [strs_take]; exact h.take i
theorem cutW_strs {w : World} {q : Option Addr} {u : List Nm} (h : Im [] w q (strs u)) (o : Option Nat) : Im [] w q (strs (cutW u o)) := by
  cases o with
  | none => exact h
  | some i => exact take_succ_strs h i
theorem innerP_len (n : Nm) : (innerP n).length ≤ 3 := by
  unfold innerP
  split
  · simp
  split
  · simp
  split
  · simp
  split
  · simp
  split
  · simp
  · simp
set_option maxHeartbeats 4000000 in
theorem nItem_ok (is : Nm → Bool) (around : Nm) (v : Value) (b : Nat) (q : Option Addr) (c : Nat) (u : List Nm) (p : Option Addr) (d : Nat) (hc : u.length ≤ c) (hl : u.length ≤ 4194304) (w0 w : World) (cs : List Plot) (hi : Im [] w0 q (strs u)) (hv : Fv Tryd.prog w v is) (hS : Sep w0 w (wkP b q c u p d [] cs)) :
    CallsR Tryd.prog 64 #[ptrAt (pb b) 0, v, str around] w fun _ w' => ∃ p' d', Sep w0 w' (wkP b q c (itemR is around u).1 p' d' (itemR is around u).2 cs) := by
  have hin := fun w' hS => nInner_ok b q c u p d hc hl w0 w' cs hi hS
  have htm := topmost_ok u q c hl v (.func (.func 53) #[] #[]) is isWall w (hi.frm hS.frm) hv (fvWall w)
  obtain ⟨f, first, cap, hfn, rfl, hcf⟩ := hv
  unfold wkP at hS ⊢
  unfold itemR
  refine enter (l := [ptrAt (pb b) 0, .func (.func f) ⟨first⟩ ⟨cap⟩, str around]) Tryd.func64 rfl Tryd.ntmps64 (by kernel_rfl) rfl ?_
  refine sgo ?_
  refine wlpure htm fun w1 hf1 => ?_
  replace hS := hS.grow hf1
  cases ht : tpm is isWall u with
  | some i =>
    have hlt := cut_len ht
    unfold placeV
    refine sgo ?_
    refine wcyes ?_ (ht := decide_eq_true (by omega))
    refine sgo ?_
    refine wlcall (nTo_ok b q c u _ (i : Int) (by omega) (by omega) hc hl w0 _ _ hS) ?_
    repeat clear hS
    rintro v w2 hS
    rw [show ((i : Int) + 1).toNat = i + 1 by omega] at hS
    refine sgo ?_
    (first | refine fp1 (.inl rfl) rfl rfl ?_ | refine fp2 (.inl rfl) rfl rfl rfl ?_ | refine fp3 (.inl rfl) rfl rfl rfl rfl ?_ | refine fp0 (.inr rfl) rfl ?_ | refine fp0 (.inl rfl) rfl ?_ | refine fp1 (.inr rfl) rfl rfl ?_)
    exact ⟨p, d, hS⟩
  | none =>
    unfold placeV
    refine sgo ?_
    refine wlcall (hin _ hS) ?_
    repeat clear hS
    rintro v w2 ⟨p2, d2, hS⟩
    unfold wkP at hS
    have hpl := innerP_len (topR (innerS u))
    generalize innerP (topR (innerS u)) = put at *
    refine sgo ?_
    refine sb1s hS fun b3 w3 hS => ?_
    refine sgo ?_
    refine sapp hS 2 (hS.own 0 rfl).sg (fun p4 d4 w4 hS => ?_)
    refine sgo ?_
    refine sst_slice hS 1 fun w5 hS => ?_
    refine sgo ?_
    (first | refine fp1 (.inl rfl) rfl rfl ?_ | refine fp2 (.inl rfl) rfl rfl rfl ?_ | refine fp3 (.inl rfl) rfl rfl rfl rfl ?_ | refine fp0 (.inr rfl) rfl ?_ | refine fp0 (.inl rfl) rfl ?_ | refine fp1 (.inr rfl) rfl rfl ?_)
    refine ⟨p4, d4, ?_⟩
    have h2 : Sep w0 w5 (pOwn b3 [str around] :: pOwn b [.slice q (innerS u).length c, .slice p4 (put.length + 1) d4] :: pRow 1 p4 (put.length + 1) d4 (strs put ++ [str around]) :: cs) := hS
    rw [strs_snoc, show put.length + 1 = (put ++ [around]).length by simp] at h2
    exact h2.tail
end Go.Proofs.YtmnnffenijjpcaaDoor

/-
  General steps, further.
-/
set_option linter.unusedSimpArgs false
set_option linter.unusedVariables false
set_option linter.unnecessarySimpa false
namespace Go.Sv
open Go Go.RowKit
end Go.Sv

/-
  sieveref18: At.
-/
set_option linter.unusedSimpArgs false
set_option linter.unusedVariables false
set_option linter.unnecessarySimpa false
namespace Go.Proofs.YtmnnffenijjpcaaDoor
open Go Go.Sv Go.RowKit











def Lk.cells (k : Lk) (q : Option Addr) (c : Nat) : List Value := [.slice q k.stack.length c, int k.most, int k.at_, int k.err, int k.good]

end Go.Proofs.YtmnnffenijjpcaaDoor

/-
  sievelaw18: EventNests.
-/
set_option linter.unusedSimpArgs false
set_option linter.unusedVariables false
set_option linter.unnecessarySimpa false
namespace Go.Proofs.YtmnnffenijjpcaaDoor
open Go Go.Sv Go.RowKit

def depthS (k : Lk) : Nat := if k.err = 0 then k.most else 0





















































































































































end Go.Proofs.YtmnnffenijjpcaaDoor

/-
  Package event: copied, Wrap; sievelaw18: spoil.
-/
set_option linter.unusedSimpArgs false
set_option linter.unusedVariables false
set_option linter.unnecessarySimpa false
namespace Go.Sv
open Go Go.RowKit
theorem y_slnil {P : Program} {σ : Env} {w : World} {d : Option Tmp} {ty t t' e : TypeId} {pos : String} {af : Array Edge} {g : Option (Nat × Bool)} {x y : Operand} {p : Option Addr} {n c : Nat} [hu : Und P t (.slice e)] (hx : evl σ x = .slice p n c) (hy : evl σ y = .slice none 0 0) : Y P σ ⟨d, .binOp .eql t x y t', ty, pos, af, g⟩ w (.bool p.isNone) w := by
  refine Y.val ?_
  have h : ∀ k : Nat, (Op.equalIn (k + 1) t (.slice p n c) (.slice none 0 0)).run P w = .ok p.isNone w := fun k => by
    cases p <;> simp [Op.equalIn, run_underlying hu.ok]
  simp only [execOp, hx, hy]
  simp [eqGuard, binOp, Op.equal, Op.maxDepth, h 9999]
end Go.Sv
namespace Go.Proofs.YtmnnffenijjpcaaDoor
open Go Go.Sv Go.RowKit
























































def spM : EvM := ⟨⟨9, [115, 112, 111, 105, 108, 116], [], []⟩, none, 0⟩































































































end Go.Proofs.YtmnnffenijjpcaaDoor

/-
  Package event: Wrap.
-/
set_option linter.unusedSimpArgs false
set_option linter.unusedVariables false
set_option linter.unnecessarySimpa false
namespace Go.Proofs.YtmnnffenijjpcaaDoor
open Go Go.Sv Go.RowKit

def firstE (n : List UInt8) (es : List At) : Ev := ⟨1, n, [], es⟩
def wrapC (f : Ev) (k : Lk) : Int := if evR f = false then 180 else if k.err ≠ 0 then k.err else if k.stack = [] then 0 else 181
def wrapE (n : List UInt8) (es : List At) (l : List Ev) : List Ev := if wrapC (firstE n es) (lkR l) = 0 then firstE n es :: l ++ [closeE n] else []






















































































































end Go.Proofs.YtmnnffenijjpcaaDoor

/-
  Package event: Trim; sieveref18: Trim.
-/
set_option linter.unusedSimpArgs false
set_option linter.unusedVariables false
set_option linter.unnecessarySimpa false
namespace Go.Sv
open Go Go.RowKit
end Go.Sv
namespace Go.Proofs.YtmnnffenijjpcaaDoor
open Go Go.Sv Go.RowKit

def opnE (e : Ev) (o : Int) : Int := if e.kind = 1 then o + 1 else if e.kind = 2 then o - 1 else o
def arndE (e : Ev) (o : Int) : Int := if e.kind = 2 then o - 1 else o
/-- does an event stay? -/
def keepE (d o : Int) (e : Ev) : Bool := if e.kind = 0 then decide (arndE e o ≤ d) else decide (arndE e o < d)
def trM (d : Int) (ms : List EvM) : Int × List EvM := ms.foldl (fun s m => (opnE m.e s.1, if keepE d s.1 m.e then s.2 ++ [m] else s.2)) (0, [])
def trI (d : Int) (ms : List EvM) (i : Nat) : Int × List EvM := trM d (ms.take i)
def trimC (d : Int) (k : Lk) : Int := if d < 0 then 1 else k.err















































































































































































































































end Go.Proofs.YtmnnffenijjpcaaDoor

/-
  strings.Join (and Grow of a builder that has not been written).
-/
set_option linter.unusedSimpArgs false
set_option linter.unusedVariables false
set_option linter.unnecessarySimpa false
namespace Go.Sv
open Go Go.RowKit
section
variable {P : Program} {T E : TypeId} {w w' : World} {b : Nat} {q : Option Addr} {c : Nat} {s : List UInt8}
end
end Go.Sv
namespace Go.Proofs.YtmnnffenijjpcaaDoor
open Go Go.Sv Go.RowKit



































/-- texts, put together -/
def joinR (sep : List UInt8) : List (List UInt8) → List UInt8
  | [] => []
  | x :: r => x ++ r.flatMap fun y => sep ++ y
def tlen (l : List (List UInt8)) : Nat := (l.map List.length).sum
end Go.Proofs.YtmnnffenijjpcaaDoor

/-
  Package event: Paths; sieveref18: Paths.
-/
set_option linter.unusedSimpArgs false
set_option linter.unusedVariables false
set_option linter.unnecessarySimpa false
namespace Go.Sv
open Go Go.RowKit
section
variable {P : Program} {w w' w0 : World} {t tx t' ty e e' : TypeId} {z : Value} {size bytes n m c c' k : Nat} {p q : Option Addr} {xs news : List Value} {x y : Operand} {cs : List Plot} {σ : Env} {d : Option Tmp} {pos : String} {af : Array Edge}
/-- append to a slice that is full: a new row, the old one stays -/
theorem run_append_full {u : Value} [hu : Und P t (.slice e)] [hi : Inf P e z size bytes] (hz : z.cells.size = size) (hx : Sg w p xs) (hl : xs.length = n * size) (hs : Src P size tx u m news w) (hm : 0 < m)
    (h63 : n + m ≤ 9223372036854775807) (hb : (n + m) * bytes ≤ 140737488355328) :
    ∃ b c' w', (Builtin.append_ #[t, tx] ty #[.slice p n n, u]).run P w = .ok (.slice (pb b) (n + m) c') w' ∧ w.heap.size ≤ b ∧ Row w' size (pb b) (n + m) c' (xs ++ news) ∧ Frm w w' := by
  obtain ⟨i, hi1, hi2, hi3, hi4⟩ := inf_size (P := P) (t := e)
  subst hi3
  subst hi4
  have hlen : (xs ++ news).length = (n + m) * i.size := by rw [List.length_append, hl, hs.newsLen, Nat.add_mul]
  have hold : (Builtin.firstCells i.size n (.slice p n n)).run P w.drew = .ok xs.toArray w.drew := by
    rcases hx with h0 | ⟨a, rfl, h0⟩
    · subst h0
      have hn0 : n * i.size = 0 := by simpa using hl.symm
      cases p with
      | none => exact run_firstCells_none w.drew i.size n n n
      | some a => exact run_firstCells_some w.drew i.size n a n n [] (by simpa using hn0.symm) (by simp)
    · refine run_firstCells_some w.drew i.size n a n n xs hl (fun j v hj => ?_)
      have hlt : j < xs.length := by
        rcases Nat.lt_or_ge j xs.length with h | h
        · exact h
        · rw [List.getElem?_eq_none h] at hj; cases hj
      have := h0 j hlt
      rw [World.cell?_drew, this]; exact hj
  have hrun := run_append_grow_src (P := P) w t tx ty e i z hu.ok hi1 hi2 p n n xs hold u m news hs (by omega) (by omega) (growslice_fits (by omega) hb)
  have hge := grownCap_ge w (n + m) n e
  have hcm := grownCap_le_maxLen w (n + m) n e (by unfold maxLen; omega)
  refine ⟨_, _, _, hrun, Nat.le_refl _, ⟨hlen, .inr ⟨w.heap.size, 0, _, e, rfl, heap_alloc_new w.drew _, hge, by unfold maxLen at hcm; omega, ?_, ?_⟩⟩, ⟨rfl, rfl, rfl, by simp, fun k hk => Below.heap_alloc w.drew _ k hk⟩⟩
  · simp only [Array.size_append, List.size_toArray, hlen, size_zeroCells, hz, ← Nat.add_mul, Nat.zero_add]
    apply Nat.mul_le_mul_right; omega
  · simp only [List.drop_zero, Array.toList_append]
    rw [← hlen]; exact List.take_left
theorem y_appf [hu : Und P t (.slice e)] [hu' : Und P t' (.slice e')] [hi : Inf P e z size bytes] (hS : Sep w0 w cs) (hp : Sg w p xs) (hs : Sg w q news) (hpl : xs.length = n * size) (hx : evl σ x = .slice p n n) (hy : evl σ y = .slice q m c') (hl : news.length = m * size)
    (h1 : ∀ u ∈ news, u.oneCell' = true) (hz : z.cells.size = size) (hm : 0 < m) (h63 : n + m ≤ 9223372036854775807) (hb : (n + m) * bytes ≤ 140737488355328) :
    ∃ b c2 w', Y P σ ⟨d, .call ⟨.builtin .append, #[x, y], #[t, t']⟩, ty, pos, af, none⟩ w (.slice (pb b) (n + m) c2) w' ∧ Sep w0 w' (pRow size (pb b) (n + m) c2 (xs ++ news) :: cs) := by
  obtain ⟨b, c2, w', h2, h3, h4, h5⟩ := run_append_full (P := P) (t := t) (tx := t') (ty := ty) (e := e) hz hp hpl (src_of_sg (tx := t') (c := c') hs hl h1) hm h63 hb
  exact ⟨b, c2, w', run_append_op hx hy h2, hS.push h5 h4 (by simpa [pRow, rb] using h3)⟩
theorem y_bs1s {s : List UInt8} [hu : Und P t (.slice e)] [hi : Inf P e z 1 bytes] (hS : Sep w0 w cs) (hx : evl σ x = str s) (hz : z.cells.size = 1) :
    ∃ b w', Y P σ ⟨d, .buildSlice t 1 #[(0, x)], ty, pos, af, none⟩ w (.slice (pb b) 1 1) w' ∧ Sep w0 w' (pOwn b [str s] :: cs) := by
  refine ⟨w.heap.size, w.alloc (.cells #[str s] e), Y.val ?_, hS.push (frm_alloc _ _) (own_alloc _ _ _) (by simp [pOwn])⟩
  simp only [execOp, List.map_toArray, List.map_cons, List.map_nil, hx, Sem.run_bind]
  rw [run_buildSlice1 (P := P) (t := t) (e := e) hz (by rfl) (by decide) (by decide)]
  rfl
end
end Go.Sv
namespace Go.Proofs.YtmnnffenijjpcaaDoor
open Go Go.Sv Go.RowKit

/-- the way of an element in others -/
def pthR (st : List (List UInt8)) (x : List UInt8) : List UInt8 := (st.flatMap fun n => n ++ [47]) ++ x
def nmw (st : List (List UInt8)) : Nat := (st.map fun n => n.length + 1).sum
/-- where elements stand, of the first i -/
def pathsI (ms : List EvM) : Nat → List (List UInt8)
  | 0 => []
  | i + 1 => pathsI ms i ++ (match ms[i]? with | some m => if m.e.kind = 1 ∨ m.e.kind = 3 then [pthR (lkI ms i).stack m.e.name] else [] | none => [])
def pthP (b7 b9 : Nat) (q q6 : Option Addr) (cc c6 : Nat) (st out : List (List UInt8)) (nm : List UInt8) : PlanB Unit where
  pl k d := match k with
    | 12 => [pOwn d.b [str nm]]
    | 13 => [pRow 1 d.p (st.length + 1) d.c (strs st ++ [str nm])]
    | 15 => [pOwn d.b [str (pthR st nm)]]
    | 16 => [pRow 1 d.p (out.length + 1) d.c (strs out ++ [str (pthR st nm)])]
    | _ => []
  con k := match k with
    | 12 => some 13
    | 13 => some 14
    | 15 => some 16
    | _ => none
  base k := match k with
    | 16 => [pRow 1 q6 out.length c6 (strs out)]
    | _ => []
  fact k a := match k with
    | 0 => (a 0).v = .slice q6 out.length c6
    | 1 => (a 1).v = ptrAt (pb b7) 0
    | 2 => (a 2).v = .slice q st.length cc
    | 3 => (a 3).v = ptrAt (pb b7) 0
    | 4 => (a 4).v = .slice q st.length cc
    | 5 => (a 5).v = int st.length
    | 6 => (a 6).v = ptrAt (pb b7) 0
    | 7 => (a 7).v = .slice q st.length cc
    | 8 => (a 8).v = int st.length
    | 9 => (a 9).v = .slice q st.length st.length
    | 10 => (a 10).v = ptrAt (pb b9) 1
    | 11 => (a 11).v = str nm
    | 12 => (a 12).v = .slice (pb (a 12).b) 1 1
    | 13 => (a 13).v = .slice (a 13).p (st.length + 1) (a 13).c
    | 14 => (a 14).v = str (pthR st nm)
    | 15 => (a 15).v = .slice (pb (a 15).b) 1 1
    | 16 => (a 16).v = .slice (a 16).p (out.length + 1) (a 16).c
    | 17 => (a 17).v = .slice (a 16).p (out.length + 1) (a 16).c
    | _ => True
def slashes (st : List (List UInt8)) (j : Nat) : List UInt8 := (st.take j).flatMap fun n => n ++ [47]
theorem fm_take {α : Type} {f : α → List Value} {k : Nat} (h : ∀ x, (f x).length = k) (l : List α) (i : Nat) : (l.flatMap f).take (i * k) = (l.take i).flatMap f := by
  induction l generalizing i with
  | nil => simp
  | cons x l ih =>
    cases i with
    | zero => simp
    | succ i =>
      rw [List.flatMap_cons, List.take_succ_cons, List.flatMap_cons, ← ih i, List.take_append, h, List.take_of_length_le (by rw [h, Nat.succ_mul]; omega)]
      congr 2
      rw [Nat.succ_mul]; omega
theorem Evs.take {w : World} {p : Option Addr} {ms : List EvM} (h : Evs w p ms) (i : Nat) : Evs w p (ms.take i) := by
  refine ⟨?_, fun m hm => h.each m (List.mem_of_mem_take hm)⟩
  have := h.im.take (i * 4)
  rwa [fm_take EvM.len] at this






































































































end Go.Proofs.YtmnnffenijjpcaaDoor

/-
  Pieces of memory chosen in whatever order; slices made of none.
-/
set_option linter.unusedSimpArgs false
set_option linter.unusedVariables false
set_option linter.unnecessarySimpa false
namespace Go.Sv
open Go Go.RowKit
section
variable {P : Program} {w0 w : World} {cs : List Plot} {σ : Env} {d : Option Tmp} {ty : TypeId} {pos : String} {af : Array Edge} {t t' e e' : TypeId} {x y : Operand} {zv : Value} {size bytes n c : Nat} {q : Option Addr} {news : List Value}
end
end Go.Sv
namespace Go.Sv
open Go Go.RowKit
/-- some of the first n pieces, in whatever order, ahead of the rest -/
theorem Sep.sel {w0 w : World} {xs ds : List Plot} (h : Sep w0 w xs) (n : Nat) (is : List Nat) (hd : is.filterMap (fun i => xs[i]?) ++ xs.drop n = ds := by rfl) (hn : is.Nodup := by decide) (hl : ∀ i ∈ is, i < n := by decide) : Sep w0 w ds := by
  subst hd
  have hR : ∀ (i j : Nat) (a b : Plot), i ≠ j → xs[i]? = some a → xs[j]? = some b → ∀ x ∈ a.foot, x ∉ b.foot := by
    intro i j a b hij ha hb
    obtain ⟨hi, rfl⟩ := List.getElem?_eq_some_iff.1 ha
    obtain ⟨hj, rfl⟩ := List.getElem?_eq_some_iff.1 hb
    have hp := h.apart
    rw [List.pairwise_iff_getElem] at hp
    rcases Nat.lt_or_ge i j with h1 | h1
    · exact hp i j hi hj h1
    · intro x hx hx'
      exact hp j i hj hi (by omega) x hx' hx
  have hm : ∀ c ∈ is.filterMap (fun i => xs[i]?) ++ xs.drop n, c ∈ xs := by
    intro c hc
    rcases List.mem_append.1 hc with hc | hc
    · obtain ⟨i, _, hi⟩ := List.mem_filterMap.1 hc
      exact List.mem_of_getElem? hi
    · exact List.mem_of_mem_drop hc
  refine ⟨h.frm, fun c hc => h.ok c (hm c hc), fun c hc => h.low c (hm c hc), ?_⟩
  rw [List.pairwise_append]
  refine ⟨?_, h.apart.sublist (List.drop_sublist _ _), ?_⟩
  · rw [List.pairwise_filterMap]
    exact hn.imp fun {i j} hij a ha b hb => hR i j a b hij ha hb
  · intro a ha b hb
    obtain ⟨i, hi, hia⟩ := List.mem_filterMap.1 ha
    obtain ⟨j, hj⟩ := List.mem_iff_getElem?.1 hb
    rw [List.getElem?_drop] at hj
    have := hl i hi
    exact hR i (n + j) a b (by omega) hia hj
end Go.Sv

/-
  Package nest: own.
-/
set_option linter.unusedSimpArgs false
set_option linter.unusedVariables false
set_option linter.unnecessarySimpa false
namespace Go.Sv
open Go Go.RowKit
theorem rule_callv {P : Program} {T : Value → World → Prop} {σ : Env} {w : World} {d : Option Tmp} {ty : TypeId} {pos : String} {af : Array Edge} {ops : Array Oper} {B : Prop} {f : FuncId} [hf : Fnc P f] {first cap args : List Value} {x : Operand} {xs : List Operand} {ats : Array TypeId} {R : Value → World → Prop} (hc : CallsR P f (first ++ args ++ cap).toArray w R) (hT : ∀ v w', R v w' → T v w') (hx : evl σ x = .func (.func f) ⟨first⟩ ⟨cap⟩) (ha : xs.map (evl σ) = args) :
    (Region.wanted (⟨d, .call ⟨.value x, xs.toArray, ats⟩, ty, pos, af, none⟩ : Oper) (yl ops σ) = true ∧ comes P T ((execOp (evl σ) ⟨d, .call ⟨.value x, xs.toArray, ats⟩, ty, pos, af, none⟩).run P w)) ∨ B := by
  refine .inl ⟨by simp [Region.wanted], ?_⟩
  rw [run_call_fv hx ha]
  exact Calls.mono hc fun e w'' ⟨v, he, hv⟩ => ⟨v, he, hT v w'' hv⟩
end Go.Sv
namespace Go.Proofs.YtmnnffenijjpcaaDoor
open Go Go.Sv Go.RowKit

def o4P (b b3 i : Nat) (q p : Option Addr) (c d : Nat) (v1 v2 : Value) (y : Nm) (put : List Nm) : PlanB (Option Addr × Nat) where
  pl k d := match k with
    | 14 => [pRow 1 d.x.1 put.length d.x.2 (strs put)]
    | 15 => [pRow 1 d.p put.length d.c (strs put)]
    | 18 => [pOwn b [.slice q (i + 1) c, .slice d.p put.length d.c]]
    | _ => []
  con k := match k with
    | 14 => some 15
    | _ => none
  base k := match k with
    | 15 => [pRow 1 p 0 d []]
    | 18 => [pOwn b [.slice q (i + 1) c, .slice p 0 d]]
    | _ => []
  fact k a := match k with
    | 0 => (a 0).v = ptrAt (pb b) 0
    | 1 => (a 1).v = ptrAt (pb b) 0
    | 2 => (a 2).v = ptrAt (pb b) 0
    | 3 => (a 3).v = ptrAt (pb b) 1
    | 4 => (a 4).v = .slice p 0 d
    | 5 => (a 5).v = ptrAt (pb b3) 1
    | 6 => (a 6).v = v2
    | 7 => (a 7).v = ptrAt (pb b) 0
    | 8 => (a 8).v = ptrAt (pb b) 0
    | 9 => (a 9).v = ptrAt (pb b) 0
    | 10 => (a 10).v = .slice q (i + 1) c
    | 11 => (a 11).v = int i
    | 12 => (a 12).v = ptrAt q (i * 1)
    | 13 => (a 13).v = str y
    | 14 => (a 14).v = .slice (a 14).x.1 put.length (a 14).x.2
    | 15 => (a 15).v = .slice (a 15).p put.length (a 15).c
    | 16 => (a 16).v = ptrAt (pb b) 0
    | 17 => (a 17).v = ptrAt (pb b) 1
    | 18 => (a 18).p = (a 15).p ∧ (a 18).c = (a 15).c
    | _ => True
def o5P (b : Nat) (q : Option Addr) (c : Nat) (x : Value) (u : List Nm) : PlanB Unit where
  pl k d := match k with
    | 4 => [pOwn b [.slice q u.length c, x]]
    | 5 => [pOwn d.b [str nP]]
    | 6 => [pOwn b [.slice q u.length c, x]]
    | 7 => [pOwn b [.slice q (cutW u (tpm (isNm nP) isWall u)).length c, x]]
    | _ => []
  con k := match k with
    | 4 => some 6
    | 5 => some 6
    | 6 => some 7
    | _ => none
  base k := match k with
    | 4 => [pOwn b [.slice q u.length c, x]]
    | _ => []
  fact k a := match k with
    | 0 => (a 0).v = ptrAt (pb b) 0
    | 1 => (a 1).v = ptrAt (pb b) 0
    | 2 => (a 2).v = ptrAt (pb b) 0
    | 3 => (a 3).v = ptrAt (pb b) 0
    | 4 => (a 4).v = .slice q u.length c
    | 5 => (a 5).v = .func (.func 72) #[] #[ptrAt (pb (a 5).b) 0]
    | 6 => (a 6).v = placeV (tpm (isNm nP) isWall u)
    | 7 => True
    | _ => True
def o7P (b b3 : Nat) (q p : Option Addr) (c d : Nat) (un : Nat) (v1 v2 : Value) (l put : List Nm) : PlanB (Option Addr × Nat) where
  pl k d := match k with
    | 5 => [pOwn d.b [str nTable]]
    | 6 => [pRow 1 d.p (l.length + 1) d.c (strs l ++ [str nTable])]
    | 9 => [pRow 1 d.x.1 put.length d.x.2 (strs put)]
    | 10 => [pRow 1 d.p (l.length + 1 + put.length) d.c (strs l ++ [str nTable] ++ strs put)]
    | 13 => [pOwn b [.slice q un c, .slice d.p (l.length + 1 + put.length) d.c]]
    | _ => []
  con k := match k with
    | 5 => some 6
    | 6 => some 10
    | 9 => some 10
    | _ => none
  base k := match k with
    | 6 => [pRow 1 p l.length d (strs l)]
    | 13 => [pOwn b [.slice q un c, .slice p l.length d]]
    | _ => []
  fact k a := match k with
    | 0 => (a 0).v = ptrAt (pb b) 0
    | 1 => (a 1).v = ptrAt (pb b) 0
    | 2 => (a 2).v = ptrAt (pb b) 0
    | 3 => (a 3).v = ptrAt (pb b) 1
    | 4 => (a 4).v = .slice p l.length d
    | 5 => (a 5).v = .slice (pb (a 5).b) 1 1
    | 6 => (a 6).v = .slice (a 6).p (l.length + 1) (a 6).c
    | 7 => (a 7).v = ptrAt (pb b3) 1
    | 8 => (a 8).v = v2
    | 9 => (a 9).v = .slice (a 9).x.1 put.length (a 9).x.2
    | 10 => (a 10).v = .slice (a 10).p (l.length + 1 + put.length) (a 10).c
    | 11 => (a 11).v = ptrAt (pb b) 0
    | 12 => (a 12).v = ptrAt (pb b) 1
    | 13 => (a 13).p = (a 10).p ∧ (a 13).c = (a 10).c
    | _ => True
set_option maxHeartbeats 8000000 in
theorem nOwn_ok (name : Nm) (v1 v2 : Value) (b : Nat) (q : Option Addr) (c : Nat) (u : List Nm) (p : Option Addr) (d : Nat) (hc : u.length ≤ c) (hl : u.length ≤ 4194304) (w0 w : World) (cs : List Plot) (hi : Im [] w0 q (strs u)) (bN : Nat) (hv : ∀ w, Own w bN [str nTable] → PartV w name v1 v2) (hS : Sep w0 w (wkP b q c u p d [] (pOwn bN [str nTable] :: cs))) :
    CallsR Tryd.prog 63 #[ptrAt (pb b) 0, .agg ⟨[v1, v2]⟩] w fun _ w' => ∃ p' d', Sep w0 w' (wkP b q c (ownR name u).1 p' d' (ownR name u).2 (pOwn bN [str nTable] :: cs)) := by
  have htm := fun w' (hf : Frm w0 w') (ho : Own w' bN [str nTable]) => topmost_ok u q c hl v1 (.func (.func 55) #[] #[]) (stands name) noNm w' (hi.frm hf) (hv w' ho).1 (fvNever w')
  obtain ⟨f1, fs1, cp1, hfn1, rfl, -⟩ := (hv w (hS.own 2 rfl)).1
  obtain ⟨f2, fs2, cp2, hfn2, rfl, -⟩ := (hv w (hS.own 2 rfl)).2
  have hcf2 := fun w' (ho : Own w' bN [str nTable]) n => FvL.at (hv w' ho).2 n
  have hpp : ∀ n, (partPut name n).length ≤ 2 := by
    intro n
    unfold partPut
    repeat' split
    all_goals simp
  unfold wkP at hS ⊢
  unfold ownR
  refine enter (l := [ptrAt (pb b) 0, .agg ⟨[.func (.func f1) ⟨fs1⟩ ⟨cp1⟩, .func (.func f2) ⟨fs2⟩ ⟨cp2⟩]⟩]) Tryd.func63 rfl Tryd.ntmps63 (by kernel_rfl) rfl ?_
  refine sgo ?_
  refine sbox (v := .agg ⟨[.func (.func f1) ⟨fs1⟩ ⟨cp1⟩, .func (.func f2) ⟨fs2⟩ ⟨cp2⟩]⟩) hS fun b3 w1 hS => ?_
  replace hS : Sep w0 w1 (pOwn b3 [.func (.func f1) ⟨fs1⟩ ⟨cp1⟩, .func (.func f2) ⟨fs2⟩ ⟨cp2⟩] :: pOwn b [.slice q u.length c, .slice p ([] : List Nm).length d] :: pRow 1 p ([] : List Nm).length d (strs []) :: pOwn bN [str nTable] :: cs) := hS
  refine sgo ?_
  refine wcdraw ?_
  refine qgo ?_
  refine qlcallp (v := placeV (tpm (stands name) noNm u)) (fun w' hw' => ?_) ?_
  · exact htm w' (hS.frm.trans hw') ((hS.grow hw').own 3 rfl)
  refine qgo ?_
  refine QL_nil ?_; intro wd hwd
  replace hS := hS.grow hwd
  clear htm
  refine sgo ?_
  cases ht : tpm (stands name) noNm u with
  | some i =>
    have hlt := cut_len ht
    obtain ⟨y, hy⟩ : ∃ y, u[i]? = some y := ⟨_, List.getElem?_eq_getElem hlt⟩
    have hg : u.getD i [] = y := by rw [List.getD_eq_getElem?_getD, hy]; rfl
    have hyv : (strs u)[i * 1]? = some (str y) := by rw [Nat.mul_one]; exact strs_at hy
    have hqs : ∃ a, q = some a := hi.some (by rw [strs_len]; omega)
    have hput := fun w' (ho : Own w' bN [str nTable]) => hcf2 w' ho y
    have hpl := hpp y
    dsimp only
    rw [hg, len_take (show i + 1 ≤ u.length by omega)]
    generalize partPut name y = put at *
    unfold placeV
    refine sgo ?_
    refine wcyes ?_ (ht := decide_eq_true (by omega))
    refine sgo ?_
    refine wlcall (nTo_ok b q c u (.slice p ([] : List Nm).length d) (i : Int) (by omega) (by omega) hc hl w0 _ _ (hS.front 1 rfl)) ?_
    repeat clear hS
    rintro v w2 hS
    rw [show ((i : Int) + 1).toNat = i + 1 by omega, len_take (show i + 1 ≤ u.length by omega)] at hS
    replace hS : Sep w0 w2 ([pRow 1 p 0 d []] ++ [pOwn b [.slice q (i + 1) c, .slice p 0 d]] ++ (pOwn b3 [.func (.func f1) ⟨fs1⟩ ⟨cp1⟩, .func (.func f2) ⟨fs2⟩ ⟨cp2⟩] :: pOwn bN [str nTable] :: cs)) := by
      have h2 : Sep w0 w2 (pOwn b [.slice q (i + 1) c, .slice p 0 d] :: pOwn b3 [.func (.func f1) ⟨fs1⟩ ⟨cp1⟩, .func (.func f2) ⟨fs2⟩ ⟨cp2⟩] :: pRow 1 p 0 d [] :: pOwn bN [str nTable] :: cs) := hS
      exact h2.front 2 rfl
    refine sgo ?_
    refine wcplanb (b := [pRow 1 p 0 d []] ++ [pOwn b [.slice q (i + 1) c, .slice p 0 d]]) (o4P b b3 i q p c d (.func (.func f1) ⟨fs1⟩ ⟨cp1⟩) (.func (.func f2) ⟨fs2⟩ ⟨cp2⟩) y put) ⟨.nilIface, none, 0, 0, (none, 0)⟩ hS rfl (fun j oj a a' hj he hd h => ?_) ⟨?_, ?_, ?_, ?_, ?_, ?_, ?_, ?_, ?_, ?_, ?_, ?_, ?_, ?_, ?_, ?_, ?_, ?_, ?_, trivial⟩ ?_
    · have hjl : j < 19 := (List.getElem?_eq_some_iff.1 hj).1
      match j, hjl with
      | 0, _ | 1, _ | 2, _ | 3, _ | 4, _ | 5, _ | 6, _ | 7, _ | 8, _ | 9, _ | 10, _ | 11, _ | 12, _ | 13, _ | 14, _ | 15, _ | 16, _ | 17, _ => first | (simp only [o4P] at h ⊢; rw [← he]; exact h) | exact h
      | 18, _ => simp only [o4P] at h ⊢; rw [← he, ← hd 15 (by cases hj; rfl)]; exact h
    · intro a σ' w' rest hσ hdep hS'   -- 0: move; pieces: sees 18 ..
      have e0 : σ' 0 = ptrAt (pb b) 0 := (hσ 0 (notDstB rfl)).trans rfl
      exact rule_e [(0, _)] ⟨e0, trivial⟩ ⟨⟨ptrAt (pb b) 0, none, 0, 0, (none, 0)⟩, rfl, rfl, hS'⟩
    · intro a σ' w' rest hσ hdep hS'   -- 1: move; pieces: sees 18 ..
      have e0 : σ' 0 = ptrAt (pb b) 0 := (hσ 0 (notDstB rfl)).trans rfl
      exact rule_e [(0, _)] ⟨e0, trivial⟩ ⟨⟨ptrAt (pb b) 0, none, 0, 0, (none, 0)⟩, rfl, rfl, hS'⟩
    · intro a σ' w' rest hσ hdep hS'   -- 2: nilCheck; pieces: sees 18 ..
      have f1 := (hdep 1 _ rfl rfl).2
      have e18 := ((hdep 1 _ rfl rfl).1 18 rfl).trans f1
      exact rule_y (y_nilcheckp e18 ⟨_, rfl⟩) ⟨⟨ptrAt (pb b) 0, none, 0, 0, (none, 0)⟩, rfl, rfl, hS'⟩
    · intro a σ' w' rest hσ hdep hS'   -- 3: fieldAddr; pieces: sees 18 ..
      have f2 := (hdep 2 _ rfl rfl).2
      have e19 := ((hdep 2 _ rfl rfl).1 19 rfl).trans f2
      exact rule_y (y_field e19 ⟨_, rfl⟩ (by decide)) ⟨⟨ptrAt (pb b) 1, none, 0, 0, (none, 0)⟩, rfl, rfl, hS'⟩
    · intro a σ' w' rest hσ hdep hS'   -- 4: load; pieces: sees 15, sees 18 ..
      have f3 := (hdep 3 _ rfl rfl).2
      have e20 := ((hdep 3 _ rfl rfl).1 20 rfl).trans f3
      exact rule_y (y_load e20 (Sep.sgv hS' 1 rfl) rfl) ⟨⟨.slice p 0 d, none, 0, 0, (none, 0)⟩, rfl, rfl, hS'⟩
    · intro a σ' w' rest hσ hdep hS'   -- 5: fieldAddr; pieces: sees 18 ..
      have e3 : σ' 3 = ptrAt (pb b3) 0 := (hσ 3 (notDstB rfl)).trans rfl
      exact rule_y (y_field e3 ⟨_, rfl⟩ (by decide)) ⟨⟨ptrAt (pb b3) 1, none, 0, 0, (none, 0)⟩, rfl, rfl, hS'⟩
    · intro a σ' w' rest hσ hdep hS'   -- 6: load; pieces: sees 18 ..
      have f5 := (hdep 5 _ rfl rfl).2
      have e22 := ((hdep 5 _ rfl rfl).1 22 rfl).trans f5
      exact rule_y (y_load e22 (Sep.sgv hS' 1 rfl) rfl) ⟨⟨.func (.func f2) ⟨fs2⟩ ⟨cp2⟩, none, 0, 0, (none, 0)⟩, rfl, rfl, hS'⟩
    · intro a σ' w' rest hσ hdep hS'   -- 7: move; pieces: sees 18 ..
      have e0 : σ' 0 = ptrAt (pb b) 0 := (hσ 0 (notDstB rfl)).trans rfl
      exact rule_e [(0, _)] ⟨e0, trivial⟩ ⟨⟨ptrAt (pb b) 0, none, 0, 0, (none, 0)⟩, rfl, rfl, hS'⟩
    · intro a σ' w' rest hσ hdep hS'   -- 8: nilCheck; pieces: sees 18 ..
      have f7 := (hdep 7 _ rfl rfl).2
      have e24 := ((hdep 7 _ rfl rfl).1 24 rfl).trans f7
      exact rule_y (y_nilcheckp e24 ⟨_, rfl⟩) ⟨⟨ptrAt (pb b) 0, none, 0, 0, (none, 0)⟩, rfl, rfl, hS'⟩
    · intro a σ' w' rest hσ hdep hS'   -- 9: fieldAddr; pieces: sees 18 ..
      have f8 := (hdep 8 _ rfl rfl).2
      have e25 := ((hdep 8 _ rfl rfl).1 25 rfl).trans f8
      exact rule_y (y_field e25 ⟨_, rfl⟩ (by decide)) ⟨⟨ptrAt (pb b) 0, none, 0, 0, (none, 0)⟩, rfl, rfl, hS'⟩
    · intro a σ' w' rest hσ hdep hS'   -- 10: load; pieces: sees 18 ..
      have f9 := (hdep 9 _ rfl rfl).2
      have e26 := ((hdep 9 _ rfl rfl).1 26 rfl).trans f9
      exact rule_y (y_load e26 (Sep.sgv hS' 0 rfl) rfl) ⟨⟨.slice q (i + 1) c, none, 0, 0, (none, 0)⟩, rfl, rfl, hS'⟩
    · intro a σ' w' rest hσ hdep hS'   -- 11: move; pieces: sees 18 ..
      have e4 : σ' 4 = int i := (hσ 4 (notDstB rfl)).trans rfl
      exact rule_e [(4, _)] ⟨e4, trivial⟩ ⟨⟨int i, none, 0, 0, (none, 0)⟩, rfl, rfl, hS'⟩
    · intro a σ' w' rest hσ hdep hS'   -- 12: indexAddr; pieces: sees 18 ..
      have f10 := (hdep 10 _ rfl rfl).2
      have e27 := ((hdep 10 _ rfl rfl).1 27 rfl).trans f10
      have f11 := (hdep 11 _ rfl rfl).2
      have e28 := ((hdep 11 _ rfl rfl).1 28 rfl).trans f11
      exact rule_y (y_idx e27 e28 (by omega) hqs) ⟨⟨ptrAt q (i * 1), none, 0, 0, (none, 0)⟩, rfl, rfl, hS'⟩
    · intro a σ' w' rest hσ hdep hS'   -- 13: load; pieces: sees 18 ..
      have f12 := (hdep 12 _ rfl rfl).2
      have e29 := ((hdep 12 _ rfl rfl).1 29 rfl).trans f12
      exact rule_y (y_load e29 (hi.sep hS').sg hyv) ⟨⟨str y, none, 0, 0, (none, 0)⟩, rfl, rfl, hS'⟩
    · intro a σ' w' rest hσ hdep hS'   -- 14: call; pieces: sees 15, sees 18 ..
      have f6 := (hdep 6 _ rfl rfl).2
      have e23 := ((hdep 6 _ rfl rfl).1 23 rfl).trans f6
      have f13 := (hdep 13 _ rfl rfl).2
      have e30 := ((hdep 13 _ rfl rfl).1 30 rfl).trans f13
      refine rule_callv (args := [str y]) (hput w' (hS'.own 3 rfl)) (fun u w2 hR => ?_) e23 (am1 e30)
      obtain ⟨q7, c7, rfl, hS2⟩ := hR
      exact ⟨⟨.slice q7 put.length c7, none, 0, 0, (q7, c7)⟩, rfl, rfl, hS'.seq hS2⟩
    · intro a σ' w' rest hσ hdep hS'   -- 15: call; pieces: takes 14, base 15, sees 18 ..
      have f4 := (hdep 4 _ rfl rfl).2
      have e21 := ((hdep 4 _ rfl rfl).1 21 rfl).trans f4
      have f14 := (hdep 14 _ rfl rfl).2
      have e31 := ((hdep 14 _ rfl rfl).1 31 rfl).trans f14
      obtain ⟨p2, c2, w2, hy, hS2⟩ := y_app (P := Tryd.prog) (t := 30) (t' := 30) (ty := 30) (d := some 32) (x := .tmp 21) (y := .tmp 31) (n := put.length) hS' 1 (hS'.row 0 rfl).sg rfl e21 e31 (by rw [strs_len, Nat.mul_one]) (strs_one put) rfl (by decide) (by omega)
      rw [show 0 + put.length = put.length from Nat.zero_add _, List.nil_append] at hS2
      rw [show 0 + put.length = put.length from Nat.zero_add _] at hy
      exact rule_y hy ⟨⟨.slice p2 put.length c2, p2, c2, 0, (none, 0)⟩, rfl, rfl, hS2.drop 0 rfl⟩
    · intro a σ' w' rest hσ hdep hS'   -- 16: nilCheck; pieces:  ..
      have f0 := (hdep 0 _ rfl rfl).2
      have e17 := ((hdep 0 _ rfl rfl).1 17 rfl).trans f0
      exact rule_y (y_nilcheckp e17 ⟨_, rfl⟩) ⟨⟨ptrAt (pb b) 0, none, 0, 0, (none, 0)⟩, rfl, rfl, hS'⟩
    · intro a σ' w' rest hσ hdep hS'   -- 17: fieldAddr; pieces: sees 18 ..
      have f16 := (hdep 16 _ rfl rfl).2
      have e33 := ((hdep 16 _ rfl rfl).1 33 rfl).trans f16
      exact rule_y (y_field e33 ⟨_, rfl⟩ (by decide)) ⟨⟨ptrAt (pb b) 1, none, 0, 0, (none, 0)⟩, rfl, rfl, hS'⟩
    · intro a σ' w' rest hσ hdep hS'   -- 18: store; pieces: base 18 ..
      have f17 := (hdep 17 _ rfl rfl).2
      have e34 := ((hdep 17 _ rfl rfl).1 34 rfl).trans f17
      have f15 := (hdep 15 _ rfl rfl).2
      have e32 := ((hdep 15 _ rfl rfl).1 32 rfl).trans f15
      obtain ⟨w2, hy, hS2⟩ := y_sst (P := Tryd.prog) (t := 30) (x := .tmp 34) (y := .tmp 32) hS' 0 rfl e34 e32 rfl (Nat.le_of_ble_eq_true rfl) (by simp [Go.Value.cells, Go.Value.oneCell'])
      exact rule_y hy ⟨⟨undef, (a 15).p, (a 15).c, 0, (none, 0)⟩, rfl, ⟨rfl, rfl⟩, hS2⟩
    · intro a σ' w' hσ hA' hS'
      have h18 := hA' 18 _ rfl
      rw [frameOf (σ := σ') [] trivial]
      replace hS' : Sep w0 w' (pRow 1 (a 15).p put.length (a 15).c (strs put) :: pOwn b [.slice q (i + 1) c, .slice (a 18).p put.length (a 18).c] :: pOwn b3 [.func (.func f1) ⟨fs1⟩ ⟨cp1⟩, .func (.func f2) ⟨fs2⟩ ⟨cp2⟩] :: pOwn bN [str nTable] :: cs) := hS'
      rw [h18.2.1, h18.2.2] at hS'
      refine sgo ?_
      (first | refine fp1 (.inl rfl) rfl rfl ?_ | refine fp2 (.inl rfl) rfl rfl rfl ?_ | refine fp3 (.inl rfl) rfl rfl rfl rfl ?_ | refine fp0 (.inr rfl) rfl ?_ | refine fp0 (.inl rfl) rfl ?_ | refine fp1 (.inr rfl) rfl rfl ?_)
      exact ⟨_, _, hS'.sel 3 [1, 0]⟩
  | none =>
    dsimp only
    obtain ⟨u2, hu2⟩ : ∃ u2, u2 = cutW u (tpm (isNm nP) isWall u) := ⟨_, rfl⟩
    have hi2 : Im [] w0 q (strs u2) := by rw [hu2]; exact cutW_strs hi _
    have hl2 : u2.length ≤ u.length := by rw [hu2]; exact cutW_le _ _
    rw [← hu2]
    have hput := fun w' (ho : Own w' bN [str nTable]) => hcf2 w' ho nTable
    have hpl := hpp nTable
    have hpl2 := innerP_len (topR (innerS u2))
    unfold placeV
    refine sgo ?_
    replace hS : Sep w0 wd ([pOwn b [.slice q u.length c, .slice p 0 d]] ++ (pOwn b3 [.func (.func f1) ⟨fs1⟩ ⟨cp1⟩, .func (.func f2) ⟨fs2⟩ ⟨cp2⟩] :: pRow 1 p 0 d [] :: pOwn bN [str nTable] :: cs)) := hS.front 1 rfl
    refine wcplanb (b := [pOwn b [.slice q u.length c, .slice p 0 d]]) (o5P b q c (.slice p 0 d) u) ⟨.nilIface, none, 0, 0, ()⟩ hS rfl (fun j oj a a' hj he hd h => ?_) ⟨?_, ?_, ?_, ?_, ?_, ?_, ?_, ?_, trivial⟩ ?_
    · have hjl : j < 8 := (List.getElem?_eq_some_iff.1 hj).1
      match j, hjl with
      | 0, _ | 1, _ | 2, _ | 3, _ | 4, _ | 5, _ | 6, _ | 7, _ => first | (simp only [o5P] at h ⊢; rw [← he]; exact h) | exact h
    · intro a σ' w' rest hσ hdep hS'   -- 0: move; pieces:  ..
      have e0 : σ' 0 = ptrAt (pb b) 0 := (hσ 0 (notDstB rfl)).trans rfl
      exact rule_e [(0, _)] ⟨e0, trivial⟩ ⟨⟨ptrAt (pb b) 0, none, 0, 0, ()⟩, rfl, rfl, hS'⟩
    · intro a σ' w' rest hσ hdep hS'   -- 1: move; pieces:  ..
      have e0 : σ' 0 = ptrAt (pb b) 0 := (hσ 0 (notDstB rfl)).trans rfl
      exact rule_e [(0, _)] ⟨e0, trivial⟩ ⟨⟨ptrAt (pb b) 0, none, 0, 0, ()⟩, rfl, rfl, hS'⟩
    · intro a σ' w' rest hσ hdep hS'   -- 2: nilCheck; pieces:  ..
      have f1 := (hdep 1 _ rfl rfl).2
      have e36 := ((hdep 1 _ rfl rfl).1 36 rfl).trans f1
      exact rule_y (y_nilcheckp e36 ⟨_, rfl⟩) ⟨⟨ptrAt (pb b) 0, none, 0, 0, ()⟩, rfl, rfl, hS'⟩
    · intro a σ' w' rest hσ hdep hS'   -- 3: fieldAddr; pieces: sees 4 ..
      have f2 := (hdep 2 _ rfl rfl).2
      have e37 := ((hdep 2 _ rfl rfl).1 37 rfl).trans f2
      exact rule_y (y_field e37 ⟨_, rfl⟩ (by decide)) ⟨⟨ptrAt (pb b) 0, none, 0, 0, ()⟩, rfl, rfl, hS'⟩
    · intro a σ' w' rest hσ hdep hS'   -- 4: load; pieces: base 4 ..
      have f3 := (hdep 3 _ rfl rfl).2
      have e38 := ((hdep 3 _ rfl rfl).1 38 rfl).trans f3
      exact rule_y (y_load e38 (Sep.sgv hS' 0 rfl) rfl) ⟨⟨.slice q u.length c, none, 0, 0, ()⟩, rfl, rfl, hS'⟩
    · intro a σ' w' rest hσ hdep hS'   -- 5: call; pieces:  ..
      refine rule_call (vals := [str nP]) (named2_ok nP w0 w' _ hS') (fun v w2 hR => ?_) rfl
      obtain ⟨bN, rfl, hS2⟩ := hR
      exact ⟨⟨.func (.func 72) #[] #[ptrAt (pb bN) 0], none, 0, bN, ()⟩, rfl, rfl, hS2⟩
    · intro a σ' w' rest hσ hdep hS'   -- 6: call; pieces: takes 4, takes 5 ..
      have f4 := (hdep 4 _ rfl rfl).2
      have e39 := ((hdep 4 _ rfl rfl).1 39 rfl).trans f4
      have f5 := (hdep 5 _ rfl rfl).2
      have e40 := ((hdep 5 _ rfl rfl).1 40 rfl).trans f5
      exact rule_pure (topmost_ok u q c hl _ _ (isNm nP) isWall w' (hi.frm hS'.frm) (fvNamed (hS'.own 1 rfl)) (fvWall w')) (fun w2 hf2 => ⟨⟨placeV (tpm (isNm nP) isWall u), none, 0, 0, ()⟩, rfl, rfl, ((hS'.grow hf2).drop 1 rfl)⟩) (by rw [List.map_cons, List.map_cons, List.map_cons, List.map_nil]; exact am3 e39 e40 rfl)
    · intro a σ' w' rest hσ hdep hS'   -- 7: call; pieces: takes 6 ..
      have f0 := (hdep 0 _ rfl rfl).2
      have e35 := ((hdep 0 _ rfl rfl).1 35 rfl).trans f0
      have f6 := (hdep 6 _ rfl rfl).2
      have e41 := ((hdep 6 _ rfl rfl).1 41 rfl).trans f6
      refine rule_call (vals := [ptrAt (pb b) 0, placeV (tpm (isNm nP) isWall u)]) (nWith_ok b q c u _ (tpm (isNm nP) isWall u) (fun i h => Nat.le_of_lt (cut_len h)) hc hl w0 w' _ hS') (fun v w2 hR => ?_) (am2 e35 e41)
      exact ⟨⟨v, none, 0, 0, ()⟩, rfl, trivial, hR⟩
    · intro a σ' w' hσ hA' hS'
      rw [frameOf (σ := σ') [(0, ptrAt (pb b) 0), (3, ptrAt (pb b3) 0)] ⟨(hσ 0 (notDst rfl)).trans rfl, (hσ 3 (notDst rfl)).trans rfl, trivial⟩]
      replace hS' : Sep w0 w' (pOwn b [.slice q (cutW u (tpm (isNm nP) isWall u)).length c, .slice p 0 d] :: pOwn b3 [.func (.func f1) ⟨fs1⟩ ⟨cp1⟩, .func (.func f2) ⟨fs2⟩ ⟨cp2⟩] :: pRow 1 p 0 d [] :: pOwn bN [str nTable] :: cs) := hS'
      rw [← hu2] at hS'
      clear hA' hσ a
      repeat clear hS
      have hS := hS'.sel 3 [0, 2, 1]
      simp only [List.filterMap_cons, List.filterMap_nil, List.getElem?_cons_succ, List.getElem?_cons_zero, List.drop_succ_cons, List.drop_zero, List.cons_append, List.nil_append] at hS
      clear hS'
      refine sgo ?_
      refine wlcall (nInner_ok b q c u2 p d (by omega) (by omega) w0 _ _ hi2 hS) ?_
      repeat clear hS
      rintro v w3 ⟨p3, d3, hS⟩
      unfold wkP at hS
      generalize innerP (topR (innerS u2)) = l at *
      generalize partPut name nTable = put at *
      replace hS : Sep w0 w3 ([pRow 1 p3 l.length d3 (strs l)] ++ [pOwn b [.slice q (innerS u2).length c, .slice p3 l.length d3]] ++ (pOwn b3 [.func (.func f1) ⟨fs1⟩ ⟨cp1⟩, .func (.func f2) ⟨fs2⟩ ⟨cp2⟩] :: pOwn bN [str nTable] :: cs)) := hS.front 1 rfl
      refine sgo ?_
      refine wcplanb (b := [pRow 1 p3 l.length d3 (strs l)] ++ [pOwn b [.slice q (innerS u2).length c, .slice p3 l.length d3]]) (o7P b b3 q p3 c d3 (innerS u2).length (.func (.func f1) ⟨fs1⟩ ⟨cp1⟩) (.func (.func f2) ⟨fs2⟩ ⟨cp2⟩) l put) ⟨.nilIface, none, 0, 0, (none, 0)⟩ hS rfl (fun j oj a a' hj he hd h => ?_) ⟨?_, ?_, ?_, ?_, ?_, ?_, ?_, ?_, ?_, ?_, ?_, ?_, ?_, ?_, trivial⟩ ?_
      · have hjl : j < 14 := (List.getElem?_eq_some_iff.1 hj).1
        match j, hjl with
        | 0, _ | 1, _ | 2, _ | 3, _ | 4, _ | 5, _ | 6, _ | 7, _ | 8, _ | 9, _ | 10, _ | 11, _ | 12, _ => first | (simp only [o7P] at h ⊢; rw [← he]; exact h) | exact h
        | 13, _ => simp only [o7P] at h ⊢; rw [← he, ← hd 10 (by cases hj; rfl)]; exact h
      · intro a σ' w' rest hσ hdep hS'   -- 0: move; pieces: sees 13 ..
        have e0 : σ' 0 = ptrAt (pb b) 0 := (hσ 0 (notDstB rfl)).trans rfl
        exact rule_e [(0, _)] ⟨e0, trivial⟩ ⟨⟨ptrAt (pb b) 0, none, 0, 0, (none, 0)⟩, rfl, rfl, hS'⟩
      · intro a σ' w' rest hσ hdep hS'   -- 1: move; pieces: sees 13 ..
        have e0 : σ' 0 = ptrAt (pb b) 0 := (hσ 0 (notDstB rfl)).trans rfl
        exact rule_e [(0, _)] ⟨e0, trivial⟩ ⟨⟨ptrAt (pb b) 0, none, 0, 0, (none, 0)⟩, rfl, rfl, hS'⟩
      · intro a σ' w' rest hσ hdep hS'   -- 2: nilCheck; pieces: sees 13 ..
        have f1 := (hdep 1 _ rfl rfl).2
        have e46 := ((hdep 1 _ rfl rfl).1 46 rfl).trans f1
        exact rule_y (y_nilcheckp e46 ⟨_, rfl⟩) ⟨⟨ptrAt (pb b) 0, none, 0, 0, (none, 0)⟩, rfl, rfl, hS'⟩
      · intro a σ' w' rest hσ hdep hS'   -- 3: fieldAddr; pieces: sees 13 ..
        have f2 := (hdep 2 _ rfl rfl).2
        have e47 := ((hdep 2 _ rfl rfl).1 47 rfl).trans f2
        exact rule_y (y_field e47 ⟨_, rfl⟩ (by decide)) ⟨⟨ptrAt (pb b) 1, none, 0, 0, (none, 0)⟩, rfl, rfl, hS'⟩
      · intro a σ' w' rest hσ hdep hS'   -- 4: load; pieces: sees 6, sees 13 ..
        have f3 := (hdep 3 _ rfl rfl).2
        have e48 := ((hdep 3 _ rfl rfl).1 48 rfl).trans f3
        exact rule_y (y_load e48 (Sep.sgv hS' 1 rfl) rfl) ⟨⟨.slice p3 l.length d3, none, 0, 0, (none, 0)⟩, rfl, rfl, hS'⟩
      · intro a σ' w' rest hσ hdep hS'   -- 5: buildSlice; pieces: sees 6, sees 13 ..
        obtain ⟨b', w2, hy, hS2⟩ := y_bs1s (P := Tryd.prog) (t := 30) (d := some 50) (s := nTable) (x := .const (.string ⟨#[116, 97, 98, 108, 101]⟩)) hS' rfl rfl
        exact rule_y hy ⟨⟨.slice (pb b') 1 1, none, 0, b', (none, 0)⟩, rfl, rfl, hS2⟩
      · intro a σ' w' rest hσ hdep hS'   -- 6: call; pieces: takes 5, base 6, sees 13 ..
        have f4 := (hdep 4 _ rfl rfl).2
        have e49 := ((hdep 4 _ rfl rfl).1 49 rfl).trans f4
        have f5 := (hdep 5 _ rfl rfl).2
        have e50 := ((hdep 5 _ rfl rfl).1 50 rfl).trans f5
        obtain ⟨p2, c2, w2, hy, hS2⟩ := y_app (P := Tryd.prog) (t := 30) (t' := 30) (ty := 30) (d := some 51) (x := .tmp 49) (y := .tmp 50) (n := 1) hS' 1 (hS'.own 0 rfl).sg rfl e49 e50 rfl (by simp [Value.oneCell']) rfl (by decide) (by omega)
        exact rule_y hy ⟨⟨.slice p2 (l.length + 1) c2, p2, c2, 0, (none, 0)⟩, rfl, rfl, hS2.drop 0 rfl⟩
      · intro a σ' w' rest hσ hdep hS'   -- 7: fieldAddr; pieces: sees 13 ..
        have e3 : σ' 3 = ptrAt (pb b3) 0 := (hσ 3 (notDstB rfl)).trans rfl
        exact rule_y (y_field e3 ⟨_, rfl⟩ (by decide)) ⟨⟨ptrAt (pb b3) 1, none, 0, 0, (none, 0)⟩, rfl, rfl, hS'⟩
      · intro a σ' w' rest hσ hdep hS'   -- 8: load; pieces: sees 13 ..
        have f7 := (hdep 7 _ rfl rfl).2
        have e52 := ((hdep 7 _ rfl rfl).1 52 rfl).trans f7
        exact rule_y (y_load e52 (Sep.sgv hS' 1 rfl) rfl) ⟨⟨.func (.func f2) ⟨fs2⟩ ⟨cp2⟩, none, 0, 0, (none, 0)⟩, rfl, rfl, hS'⟩
      · intro a σ' w' rest hσ hdep hS'   -- 9: call; pieces: sees 13 ..
        have f8 := (hdep 8 _ rfl rfl).2
        have e53 := ((hdep 8 _ rfl rfl).1 53 rfl).trans f8
        refine rule_callv (args := [str nTable]) (hput w' (hS'.own 2 rfl)) (fun u w2 hR => ?_) e53 (by rfl)
        obtain ⟨q7, c7, rfl, hS2⟩ := hR
        exact ⟨⟨.slice q7 put.length c7, none, 0, 0, (q7, c7)⟩, rfl, rfl, hS'.seq hS2⟩
      · intro a σ' w' rest hσ hdep hS'   -- 10: call; pieces: takes 6, takes 9, sees 13 ..
        have f6 := (hdep 6 _ rfl rfl).2
        have e51 := ((hdep 6 _ rfl rfl).1 51 rfl).trans f6
        have f9 := (hdep 9 _ rfl rfl).2
        have e54 := ((hdep 9 _ rfl rfl).1 54 rfl).trans f9
        obtain ⟨p2, c2, w2, hy, hS2⟩ := y_app (P := Tryd.prog) (t := 30) (t' := 30) (ty := 30) (d := some 55) (x := .tmp 51) (y := .tmp 54) (n := put.length) hS' 0 (hS'.row 1 rfl).sg rfl e51 e54 (by rw [strs_len, Nat.mul_one]) (strs_one put) rfl (by decide) (by omega)
        exact rule_y hy ⟨⟨.slice p2 (l.length + 1 + put.length) c2, p2, c2, 0, (none, 0)⟩, rfl, rfl, hS2.drop 1 rfl⟩
      · intro a σ' w' rest hσ hdep hS'   -- 11: nilCheck; pieces:  ..
        have f0 := (hdep 0 _ rfl rfl).2
        have e45 := ((hdep 0 _ rfl rfl).1 45 rfl).trans f0
        exact rule_y (y_nilcheckp e45 ⟨_, rfl⟩) ⟨⟨ptrAt (pb b) 0, none, 0, 0, (none, 0)⟩, rfl, rfl, hS'⟩
      · intro a σ' w' rest hσ hdep hS'   -- 12: fieldAddr; pieces: sees 13 ..
        have f11 := (hdep 11 _ rfl rfl).2
        have e56 := ((hdep 11 _ rfl rfl).1 56 rfl).trans f11
        exact rule_y (y_field e56 ⟨_, rfl⟩ (by decide)) ⟨⟨ptrAt (pb b) 1, none, 0, 0, (none, 0)⟩, rfl, rfl, hS'⟩
      · intro a σ' w' rest hσ hdep hS'   -- 13: store; pieces: base 13 ..
        have f12 := (hdep 12 _ rfl rfl).2
        have e57 := ((hdep 12 _ rfl rfl).1 57 rfl).trans f12
        have f10 := (hdep 10 _ rfl rfl).2
        have e55 := ((hdep 10 _ rfl rfl).1 55 rfl).trans f10
        obtain ⟨w2, hy, hS2⟩ := y_sst (P := Tryd.prog) (t := 30) (x := .tmp 57) (y := .tmp 55) hS' 0 rfl e57 e55 rfl (Nat.le_of_ble_eq_true rfl) (by simp [Go.Value.cells, Go.Value.oneCell'])
        exact rule_y hy ⟨⟨undef, (a 10).p, (a 10).c, 0, (none, 0)⟩, rfl, ⟨rfl, rfl⟩, hS2⟩
      · intro a σ' w' hσ hA' hS'
        have h13 := hA' 13 _ rfl
        rw [frameOf (σ := σ') [] trivial]
        replace hS' : Sep w0 w' (pRow 1 (a 10).p (l.length + 1 + put.length) (a 10).c (strs l ++ [str nTable] ++ strs put) :: pOwn b [.slice q (innerS u2).length c, .slice (a 13).p (l.length + 1 + put.length) (a 13).c] :: pOwn b3 [.func (.func f1) ⟨fs1⟩ ⟨cp1⟩, .func (.func f2) ⟨fs2⟩ ⟨cp2⟩] :: pOwn bN [str nTable] :: cs) := hS'
        rw [h13.2.1, h13.2.2, strs_snoc, ← strs_app, show l.length + 1 + put.length = (l ++ [nTable] ++ put).length by simp; omega] at hS'
        refine sgo ?_
        (first | refine fp1 (.inl rfl) rfl rfl ?_ | refine fp2 (.inl rfl) rfl rfl rfl ?_ | refine fp3 (.inl rfl) rfl rfl rfl rfl ?_ | refine fp0 (.inr rfl) rfl ?_ | refine fp0 (.inl rfl) rfl ?_ | refine fp1 (.inr rfl) rfl rfl ?_)
        exact ⟨_, _, hS'.sel 3 [1, 0]⟩
end Go.Proofs.YtmnnffenijjpcaaDoor

/-
  Package nest: what a name asks.
-/
set_option linter.unusedSimpArgs false
set_option linter.unusedVariables false
set_option linter.unnecessarySimpa false
namespace Go.Proofs.YtmnnffenijjpcaaDoor
open Go Go.Sv Go.RowKit

def a5P (b : Nat) (q : Option Addr) (c : Nat) (x : Value) (u : List Nm) : PlanB Unit where
  pl k d := match k with
    | 4 => [pOwn b [.slice q u.length c, x]]
    | 5 => [pOwn d.b [str nA]]
    | 6 => [pOwn b [.slice q u.length c, x]]
    | 7 => [pOwn b [.slice q (cutW u (tpm (isNm nA) isCell u)).length c, x]]
    | _ => []
  con k := match k with
    | 4 => some 6
    | 5 => some 6
    | 6 => some 7
    | _ => none
  base k := match k with
    | 4 => [pOwn b [.slice q u.length c, x]]
    | _ => []
  fact k a := match k with
    | 0 => (a 0).v = ptrAt (pb b) 0
    | 1 => (a 1).v = ptrAt (pb b) 0
    | 2 => (a 2).v = ptrAt (pb b) 0
    | 3 => (a 3).v = ptrAt (pb b) 0
    | 4 => (a 4).v = .slice q u.length c
    | 5 => (a 5).v = .func (.func 72) #[] #[ptrAt (pb (a 5).b) 0]
    | 6 => (a 6).v = placeV (tpm (isNm nA) isCell u)
    | 7 => True
    | _ => True
def a9P (b : Nat) (q : Option Addr) (c : Nat) (x : Value) (u : List Nm) : PlanB Unit where
  pl k d := match k with
    | 4 => [pOwn b [.slice q u.length c, x]]
    | 5 => [pOwn d.b [str nP]]
    | 6 => [pOwn b [.slice q u.length c, x]]
    | 7 => [pOwn b [.slice q (cutW u (tpm (isNm nP) isWall u)).length c, x]]
    | _ => []
  con k := match k with
    | 4 => some 6
    | 5 => some 6
    | 6 => some 7
    | _ => none
  base k := match k with
    | 4 => [pOwn b [.slice q u.length c, x]]
    | _ => []
  fact k a := match k with
    | 0 => (a 0).v = ptrAt (pb b) 0
    | 1 => (a 1).v = ptrAt (pb b) 0
    | 2 => (a 2).v = ptrAt (pb b) 0
    | 3 => (a 3).v = ptrAt (pb b) 0
    | 4 => (a 4).v = .slice q u.length c
    | 5 => (a 5).v = .func (.func 72) #[] #[ptrAt (pb (a 5).b) 0]
    | 6 => (a 6).v = placeV (tpm (isNm nP) isWall u)
    | 7 => True
    | _ => True
set_option maxHeartbeats 8000000 in
theorem nAsk_ok (s : List Nm) (q : Option Addr) (c : Nat) (name : Nm) (hcc : s.length ≤ c) (hll : s.length ≤ 4194304) (w0 w : World) (cs : List Plot) (hA : Asc w0) (his : Im [] w0 q (strs s)) (hS : Sep w0 w cs) :
    CallsR Tryd.prog 36 #[.slice q s.length c, str name] w fun v w' => ∃ b p d, v = ptrAt (pb b) 0 ∧ Sep w0 w' (wkP b q c (askR s name).1 p d (askR s name).2 cs) := by
  unfold wkP
  refine enter (l := [.slice q s.length c, str name]) Tryd.func36 rfl Tryd.ntmps36 (by kernel_rfl) rfl ?_
  refine sgo ?_
  refine wlbuild (cells := [.slice q s.length c, .slice none 0 0]) ?_
  refine sgo ?_
  refine sbox (v := .agg ⟨[.slice q s.length c, .slice none 0 0]⟩) hS fun b w1 hS => ?_
  replace hS : Sep w0 w1 (pOwn b [.slice q s.length c, .slice none 0 0] :: cs) := hS
  refine sgo ?_
  refine wlpure (nTop_ok s q c hll _ (his.frm hS.frm)) fun w2 hf2 => ?_
  replace hS := hS.grow hf2
  refine sgo ?_
  obtain ⟨u0, hu0⟩ : ∃ u0, u0 = ask0 s := ⟨_, rfl⟩
  have hpre0 : ∃ i, u0 = s.take i := by rw [hu0]; exact ask0_pre s
  refine wcutt (X := Unit) (fun _ => [(0, .slice q s.length c), (1, str name), (5, ptrAt (pb b) 0)]) (fun _ wr => Sep w0 wr (pOwn b [.slice q (u0).length c, .slice none 0 0] :: cs)) ?_ ?_
  · by_cases ht : topR s = nTextarea
    · have hne : s ≠ [] := by rintro rfl; revert ht; decide
      have hpos : 0 < s.length := List.length_pos_iff.2 hne
      have e : u0 = s.take (((s.length : Int) - 2 + 1).toNat) := by
        rw [hu0]; unfold ask0; rw [if_pos ht, List.dropLast_eq_take]
        congr 1; omega
      rw [ht]
      refine sgo ?_
      refine wlcall (nTo_ok b q c s (.slice none 0 0) ((s.length : Int) - 2) (by omega) (by omega) hcc hll w0 _ _ hS) ?_
      repeat clear hS
      rintro v w3 hS
      rw [← e] at hS
      refine sgo ?_
      exact ⟨(), ⟨rfl, rfl, rfl, trivial⟩, hS⟩
    · have e : u0 = s := by rw [hu0]; unfold ask0; rw [if_neg ht]
      rw [e]
      refine wcno ?_ (ht := decide_eq_false ht)
      refine sgo ?_
      exact ⟨(), ⟨rfl, rfl, rfl, trivial⟩, hS⟩
  repeat clear hS
  rintro _ w3 ρ hS
  have hask : askS s name = ask3 name (ask2 name (ask1 name u0)) := by rw [hu0]; rfl
  clear hu0
  obtain ⟨u1, hu1⟩ : ∃ u1, u1 = ask1 name u0 := ⟨_, rfl⟩
  rw [← hu1] at hask
  have hfacts : ∀ u : List Nm, (∃ i, u = s.take i) → u.length ≤ c ∧ u.length ≤ 4194304 ∧ Im [] w0 q (strs u) := by
    rintro u ⟨i, rfl⟩
    have : (s.take i).length ≤ s.length := by rw [List.length_take]; omega
    exact ⟨by omega, by omega, take_succ_strs his i⟩
  have hpre1 : ∃ i, u1 = s.take i := by
    rw [hu1]; unfold ask1; split
    · exact cutW_pre2 hpre0 _
    · exact hpre0
  refine sgo ?_
  refine wcutt (X := Unit) (fun _ => [(0, .slice q s.length c), (1, str name), (5, ptrAt (pb b) 0)]) (fun _ wr => Sep w0 wr (pOwn b [.slice q (u1).length c, .slice none 0 0] :: cs)) ?_ ?_
  · obtain ⟨hc, hl, hi⟩ := hfacts u0 hpre0
    by_cases ha : name = nA
    · have e : u1 = cutW u0 (tpm (isNm nA) isCell u0) := by rw [hu1]; unfold ask1; rw [if_pos ha]
      refine wcyes ?_ (ht := decide_eq_true ha)
      clear hu1 hask
      obtain ⟨u, hu⟩ : ∃ u, u = u0 := ⟨_, rfl⟩
      rw [← hu] at hS e hc hl hi
      clear hpre0
      replace hS : Sep w0 w3 ([pOwn b [.slice q u.length c, .slice none 0 0]] ++ cs) := hS
      refine wcplanb (b := [pOwn b [.slice q u.length c, .slice none 0 0]]) (a5P b q c (.slice none 0 0) u) ⟨.nilIface, none, 0, 0, ()⟩ hS rfl (fun j oj a a' hj he hd h => ?_) ⟨?_, ?_, ?_, ?_, ?_, ?_, ?_, ?_, trivial⟩ ?_
      · have hjl : j < 8 := (List.getElem?_eq_some_iff.1 hj).1
        match j, hjl with
        | 0, _ | 1, _ | 2, _ | 3, _ | 4, _ | 5, _ | 6, _ | 7, _ => first | (simp only [a5P] at h ⊢; rw [← he]; exact h) | exact h
      · intro a σ' w' rest hσ hdep hS'   -- 0: move; pieces:  ..
        have e5 : σ' 5 = ptrAt (pb b) 0 := (hσ 5 (notDstB rfl)).trans rfl
        exact rule_e [(5, _)] ⟨e5, trivial⟩ ⟨⟨ptrAt (pb b) 0, none, 0, 0, ()⟩, rfl, rfl, hS'⟩
      · intro a σ' w' rest hσ hdep hS'   -- 1: move; pieces:  ..
        have e5 : σ' 5 = ptrAt (pb b) 0 := (hσ 5 (notDstB rfl)).trans rfl
        exact rule_e [(5, _)] ⟨e5, trivial⟩ ⟨⟨ptrAt (pb b) 0, none, 0, 0, ()⟩, rfl, rfl, hS'⟩
      · intro a σ' w' rest hσ hdep hS'   -- 2: nilCheck; pieces:  ..
        have f1 := (hdep 1 _ rfl rfl).2
        have e22 := ((hdep 1 _ rfl rfl).1 22 rfl).trans f1
        exact rule_y (y_nilcheckp e22 ⟨_, rfl⟩) ⟨⟨ptrAt (pb b) 0, none, 0, 0, ()⟩, rfl, rfl, hS'⟩
      · intro a σ' w' rest hσ hdep hS'   -- 3: fieldAddr; pieces: sees 4 ..
        have f2 := (hdep 2 _ rfl rfl).2
        have e23 := ((hdep 2 _ rfl rfl).1 23 rfl).trans f2
        exact rule_y (y_field e23 ⟨_, rfl⟩ (by decide)) ⟨⟨ptrAt (pb b) 0, none, 0, 0, ()⟩, rfl, rfl, hS'⟩
      · intro a σ' w' rest hσ hdep hS'   -- 4: load; pieces: base 4 ..
        have f3 := (hdep 3 _ rfl rfl).2
        have e24 := ((hdep 3 _ rfl rfl).1 24 rfl).trans f3
        exact rule_y (y_load e24 (Sep.sgv hS' 0 rfl) rfl) ⟨⟨.slice q u.length c, none, 0, 0, ()⟩, rfl, rfl, hS'⟩
      · intro a σ' w' rest hσ hdep hS'   -- 5: call; pieces:  ..
        refine rule_call (vals := [str nA]) (named2_ok nA w0 w' _ hS') (fun v w2 hR => ?_) rfl
        obtain ⟨bN, rfl, hS2⟩ := hR
        exact ⟨⟨.func (.func 72) #[] #[ptrAt (pb bN) 0], none, 0, bN, ()⟩, rfl, rfl, hS2⟩
      · intro a σ' w' rest hσ hdep hS'   -- 6: call; pieces: takes 4, takes 5 ..
        have f4 := (hdep 4 _ rfl rfl).2
        have e25 := ((hdep 4 _ rfl rfl).1 25 rfl).trans f4
        have f5 := (hdep 5 _ rfl rfl).2
        have e26 := ((hdep 5 _ rfl rfl).1 26 rfl).trans f5
        exact rule_pure (topmost_ok u q c hl _ _ (isNm nA) isCell w' (hi.frm hS'.frm) (fvNamed (hS'.own 1 rfl)) (fvCell w')) (fun w2 hf2 => ⟨⟨placeV (tpm (isNm nA) isCell u), none, 0, 0, ()⟩, rfl, rfl, ((hS'.grow hf2).drop 1 rfl)⟩) (by rw [List.map_cons, List.map_cons, List.map_cons, List.map_nil]; exact am3 e25 e26 rfl)
      · intro a σ' w' rest hσ hdep hS'   -- 7: call; pieces: takes 6 ..
        have f0 := (hdep 0 _ rfl rfl).2
        have e21 := ((hdep 0 _ rfl rfl).1 21 rfl).trans f0
        have f6 := (hdep 6 _ rfl rfl).2
        have e27 := ((hdep 6 _ rfl rfl).1 27 rfl).trans f6
        refine rule_call (vals := [ptrAt (pb b) 0, placeV (tpm (isNm nA) isCell u)]) (nWith_ok b q c u _ (tpm (isNm nA) isCell u) (fun i h => Nat.le_of_lt (cut_len h)) hc hl w0 w' _ hS') (fun v w2 hR => ?_) (am2 e21 e27)
        exact ⟨⟨v, none, 0, 0, ()⟩, rfl, trivial, hR⟩
      · intro a σ' w' hσ hA' hS'
        rw [frameOf (σ := σ') [(0, .slice q s.length c), (1, str name), (5, ptrAt (pb b) 0)] ⟨(hσ 0 (notDst rfl)).trans rfl, (hσ 1 (notDst rfl)).trans rfl, (hσ 5 (notDst rfl)).trans rfl, trivial⟩]
        replace hS' : Sep w0 w' (pOwn b [.slice q (cutW u (tpm (isNm nA) isCell u)).length c, .slice none 0 0] :: cs) := hS'
        refine sgo ?_
        refine ⟨(), ⟨rfl, rfl, rfl, trivial⟩, ?_⟩
        rw [e]
        exact hS'
    · have e : u1 = u0 := by rw [hu1]; unfold ask1; rw [if_neg ha]
      rw [e]
      refine wcno ?_ (ht := decide_eq_false ha)
      refine sgo ?_
      exact ⟨(), ⟨rfl, rfl, rfl, trivial⟩, hS⟩
  repeat clear hS
  clear hu1 hpre0 u0
  rintro _ w4 ρ1 hS
  obtain ⟨u2, hu2⟩ : ∃ u2, u2 = ask2 name u1 := ⟨_, rfl⟩
  rw [← hu2] at hask
  have hpre2 : ∃ i, u2 = s.take i := by
    rw [hu2]; unfold ask2; split
    · exact cutW_pre2 hpre1 _
    · exact hpre1
  refine sgo ?_
  refine wlpure (nHead_ok name _ (hA.frm hS.frm)) fun w5 hf5 => ?_
  replace hS := hS.grow hf5
  refine sgo ?_
  refine wcutt (X := Unit) (fun _ => [(0, .slice q s.length c), (1, str name), (5, ptrAt (pb b) 0)]) (fun _ wr => Sep w0 wr (pOwn b [.slice q (u2).length c, .slice none 0 0] :: cs)) ?_ ?_
  · obtain ⟨hc, hl, hi⟩ := hfacts u1 hpre1
    cases hh : isHead name with
    | true =>
      have e : u2 = cutW u1 (tpm isHead isWall u1) := by rw [hu2]; unfold ask2; rw [if_pos hh]
      refine sgo ?_
      refine wlpure (topmost_ok u1 q c hl _ _ isHead isWall _ (hi.frm hS.frm) (fvHead _ (hA.frm hS.frm)) (fvWall _)) fun w6 hf6 => ?_
      replace hS := hS.grow hf6
      refine wlcall (nWith_ok b q c u1 (.slice none 0 0) (tpm isHead isWall u1) (fun i h => Nat.le_of_lt (cut_len h)) hc hl w0 _ _ hS) ?_
      repeat clear hS
      rintro v w7 hS
      rw [← e] at hS
      refine sgo ?_
      exact ⟨(), ⟨rfl, rfl, rfl, trivial⟩, hS⟩
    | false =>
      have e : u2 = u1 := by rw [hu2]; unfold ask2; rw [if_neg (by rw [hh]; simp)]
      rw [e]
      refine sgo ?_
      exact ⟨(), ⟨rfl, rfl, rfl, trivial⟩, hS⟩
  repeat clear hS
  clear hu2 hpre1 u1
  rintro _ w6 ρ2 hS
  obtain ⟨u3, hu3⟩ : ∃ u3, u3 = ask3 name u2 := ⟨_, rfl⟩
  rw [← hu3] at hask
  have hpre3 : ∃ i, u3 = s.take i := by
    rw [hu3]; unfold ask3; split
    · exact cutW_pre2 hpre2 _
    · exact hpre2
  refine sgo ?_
  refine wlpure (inK_ok 6 (by decide) name _ (hA.frm hS.frm)) fun w7 hf7 => ?_
  replace hS := hS.grow hf7
  refine sgo ?_
  refine wcutt (X := Unit) (fun _ => [(0, .slice q s.length c), (1, str name), (5, ptrAt (pb b) 0)]) (fun _ wr => Sep w0 wr (pOwn b [.slice q (u3).length c, .slice none 0 0] :: cs)) ?_ ?_
  · obtain ⟨hc, hl, hi⟩ := hfacts u2 hpre2
    cases hh : inSet 6 name with
    | true =>
      have e : u3 = cutW u2 (tpm (isNm nP) isWall u2) := by rw [hu3]; unfold ask3; rw [if_pos (show isBlk name = true from hh)]
      clear hu3 hask
      obtain ⟨u, hu⟩ : ∃ u, u = u2 := ⟨_, rfl⟩
      rw [← hu] at hS e hc hl hi
      clear hpre2
      replace hS : Sep w0 w7 ([pOwn b [.slice q u.length c, .slice none 0 0]] ++ cs) := hS
      refine sgo ?_
      refine wcplanb (b := [pOwn b [.slice q u.length c, .slice none 0 0]]) (a9P b q c (.slice none 0 0) u) ⟨.nilIface, none, 0, 0, ()⟩ hS rfl (fun j oj a a' hj he hd h => ?_) ⟨?_, ?_, ?_, ?_, ?_, ?_, ?_, ?_, trivial⟩ ?_
      · have hjl : j < 8 := (List.getElem?_eq_some_iff.1 hj).1
        match j, hjl with
        | 0, _ | 1, _ | 2, _ | 3, _ | 4, _ | 5, _ | 6, _ | 7, _ => first | (simp only [a9P] at h ⊢; rw [← he]; exact h) | exact h
      · intro a σ' w' rest hσ hdep hS'   -- 0: move; pieces:  ..
        have e5 : σ' 5 = ptrAt (pb b) 0 := (hσ 5 (notDstB rfl)).trans rfl
        exact rule_e [(5, _)] ⟨e5, trivial⟩ ⟨⟨ptrAt (pb b) 0, none, 0, 0, ()⟩, rfl, rfl, hS'⟩
      · intro a σ' w' rest hσ hdep hS'   -- 1: move; pieces:  ..
        have e5 : σ' 5 = ptrAt (pb b) 0 := (hσ 5 (notDstB rfl)).trans rfl
        exact rule_e [(5, _)] ⟨e5, trivial⟩ ⟨⟨ptrAt (pb b) 0, none, 0, 0, ()⟩, rfl, rfl, hS'⟩
      · intro a σ' w' rest hσ hdep hS'   -- 2: nilCheck; pieces:  ..
        have f1 := (hdep 1 _ rfl rfl).2
        have e41 := ((hdep 1 _ rfl rfl).1 41 rfl).trans f1
        exact rule_y (y_nilcheckp e41 ⟨_, rfl⟩) ⟨⟨ptrAt (pb b) 0, none, 0, 0, ()⟩, rfl, rfl, hS'⟩
      · intro a σ' w' rest hσ hdep hS'   -- 3: fieldAddr; pieces: sees 4 ..
        have f2 := (hdep 2 _ rfl rfl).2
        have e42 := ((hdep 2 _ rfl rfl).1 42 rfl).trans f2
        exact rule_y (y_field e42 ⟨_, rfl⟩ (by decide)) ⟨⟨ptrAt (pb b) 0, none, 0, 0, ()⟩, rfl, rfl, hS'⟩
      · intro a σ' w' rest hσ hdep hS'   -- 4: load; pieces: base 4 ..
        have f3 := (hdep 3 _ rfl rfl).2
        have e43 := ((hdep 3 _ rfl rfl).1 43 rfl).trans f3
        exact rule_y (y_load e43 (Sep.sgv hS' 0 rfl) rfl) ⟨⟨.slice q u.length c, none, 0, 0, ()⟩, rfl, rfl, hS'⟩
      · intro a σ' w' rest hσ hdep hS'   -- 5: call; pieces:  ..
        refine rule_call (vals := [str nP]) (named2_ok nP w0 w' _ hS') (fun v w2 hR => ?_) rfl
        obtain ⟨bN, rfl, hS2⟩ := hR
        exact ⟨⟨.func (.func 72) #[] #[ptrAt (pb bN) 0], none, 0, bN, ()⟩, rfl, rfl, hS2⟩
      · intro a σ' w' rest hσ hdep hS'   -- 6: call; pieces: takes 4, takes 5 ..
        have f4 := (hdep 4 _ rfl rfl).2
        have e44 := ((hdep 4 _ rfl rfl).1 44 rfl).trans f4
        have f5 := (hdep 5 _ rfl rfl).2
        have e45 := ((hdep 5 _ rfl rfl).1 45 rfl).trans f5
        exact rule_pure (topmost_ok u q c hl _ _ (isNm nP) isWall w' (hi.frm hS'.frm) (fvNamed (hS'.own 1 rfl)) (fvWall w')) (fun w2 hf2 => ⟨⟨placeV (tpm (isNm nP) isWall u), none, 0, 0, ()⟩, rfl, rfl, ((hS'.grow hf2).drop 1 rfl)⟩) (by rw [List.map_cons, List.map_cons, List.map_cons, List.map_nil]; exact am3 e44 e45 rfl)
      · intro a σ' w' rest hσ hdep hS'   -- 7: call; pieces: takes 6 ..
        have f0 := (hdep 0 _ rfl rfl).2
        have e40 := ((hdep 0 _ rfl rfl).1 40 rfl).trans f0
        have f6 := (hdep 6 _ rfl rfl).2
        have e46 := ((hdep 6 _ rfl rfl).1 46 rfl).trans f6
        refine rule_call (vals := [ptrAt (pb b) 0, placeV (tpm (isNm nP) isWall u)]) (nWith_ok b q c u _ (tpm (isNm nP) isWall u) (fun i h => Nat.le_of_lt (cut_len h)) hc hl w0 w' _ hS') (fun v w2 hR => ?_) (am2 e40 e46)
        exact ⟨⟨v, none, 0, 0, ()⟩, rfl, trivial, hR⟩
      · intro a σ' w' hσ hA' hS'
        rw [frameOf (σ := σ') [(0, .slice q s.length c), (1, str name), (5, ptrAt (pb b) 0)] ⟨(hσ 0 (notDst rfl)).trans rfl, (hσ 1 (notDst rfl)).trans rfl, (hσ 5 (notDst rfl)).trans rfl, trivial⟩]
        replace hS' : Sep w0 w' (pOwn b [.slice q (cutW u (tpm (isNm nP) isWall u)).length c, .slice none 0 0] :: cs) := hS'
        refine sgo ?_
        refine ⟨(), ⟨rfl, rfl, rfl, trivial⟩, ?_⟩
        rw [e]
        exact hS'
    | false =>
      have e : u3 = u2 := by rw [hu3]; unfold ask3; rw [if_neg (show ¬ isBlk name = true by unfold isBlk; rw [hh]; simp)]
      rw [e]
      refine sgo ?_
      exact ⟨(), ⟨rfl, rfl, rfl, trivial⟩, hS⟩
  repeat clear hS
  clear hu3 hpre2 u2
  rintro _ w8 ρ3 hS
  rw [ask_eq, hask]
  obtain ⟨hc, hl, hi⟩ := hfacts u3 hpre3
  clear hask hpre3 hfacts
  generalize u3 = u at *
  replace hS : Sep w0 w8 (wkP b q c u none 0 [] cs) := by
    have h := (hS.nilRow 1).front 1 rfl
    exact h
  have hSw := hS
  unfold wkP at hS
  refine sgo ?_
  refine wlcall (parts_ok w0 _ _ hS) ?_
  repeat clear hS
  rintro _ w9 ⟨mm, bN, rfl, hS⟩
  clear hSw
  refine sgo ?_
  refine wl ?_ (y_lookup2 (m := mm) (s := name) rfl rfl (hS.at (c := pMap mm (partsKV (.func (.func 72) #[] #[ptrAt (pb bN) 0]))) 0 rfl))
  cases hp : isPart name with
  | true =>
    obtain ⟨v1, v2, hlk, hpv⟩ := parts_yes (.func (.func 72) #[] #[ptrAt (pb bN) 0]) hp
    rw [hlk, askE_part hp]
    simp only [Option.getD_some, Option.isSome_some]
    have hown := fun w' hS => nOwn_ok name v1 v2 b q c u none 0 hc hl w0 w' (pMap mm (partsKV (.func (.func 72) #[] #[ptrAt (pb bN) 0])) :: cs) hi bN (fun w ho => hpv w (fvNamed ho)) hS
    obtain ⟨f1, fs1, cp1, hfn1, rfl, -⟩ := (hpv w9 (fvNamed (hS.own 1 rfl))).1
    obtain ⟨f2, fs2, cp2, hfn2, rfl, -⟩ := (hpv w9 (fvNamed (hS.own 1 rfl))).2
    refine sgo ?_
    refine salloc hS fun b6 w10 hS => ?_
    refine sgo ?_
    refine ssta (vs := [.func (.func f1) ⟨fs1⟩ ⟨cp1⟩, .func (.func f2) ⟨fs2⟩ ⟨cp2⟩]) hS 0 fun w11 hS => ?_
    replace hS : Sep w0 w11 (pOwn b6 [.func (.func f1) ⟨fs1⟩ ⟨cp1⟩, .func (.func f2) ⟨fs2⟩ ⟨cp2⟩] :: pMap mm (partsKV (.func (.func 72) #[] #[ptrAt (pb bN) 0])) :: pOwn bN [str nTable] :: pOwn b [.slice q u.length c, .slice none ([] : List Nm).length 0] :: pRow 1 none ([] : List Nm).length 0 (strs []) :: cs) := hS
    refine sgo ?_
    have h2 := hS.sel 5 [3, 4, 2, 1]
    simp only [List.filterMap_cons, List.filterMap_nil, List.getElem?_cons_succ, List.getElem?_cons_zero, List.drop_succ_cons, List.drop_zero, List.cons_append, List.nil_append] at h2
    refine wlcall (hown _ h2) ?_
    repeat clear hS
    clear h2
    rintro v w12 ⟨p', d', hS⟩
    refine sgo ?_
    (first | refine fp1 (.inl rfl) rfl rfl ?_ | refine fp2 (.inl rfl) rfl rfl rfl ?_ | refine fp3 (.inl rfl) rfl rfl rfl rfl ?_ | refine fp0 (.inr rfl) rfl ?_ | refine fp0 (.inl rfl) rfl ?_ | refine fp1 (.inr rfl) rfl rfl ?_)
    exact ⟨b, p', d', rfl, hS.sel 4 [0, 1]⟩
  | false =>
    rw [parts_no hp]
    simp only [Option.getD_none, Option.isSome_none]
    refine sgo ?_
    refine salloc hS fun b6 w10 hS => ?_
    refine sgo ?_
    refine ssta (vs := [.nilFunc, .nilFunc]) hS 0 fun w11 hS => ?_
    have h2 := hS.sel 5 [3, 4]
    repeat clear hS
    have hS : Sep w0 w11 (wkP b q c u none 0 [] cs) := h2
    clear h2
    refine sgo ?_
    by_cases h1 : name = nLi
    · subst h1
      rw [askE_li]
      refine sgo ?_
      refine wlcall (nItem_ok isLst nUl _ b q c u none 0 hc hl w0 _ cs hi (fvList _) hS) ?_
      repeat clear hS
      rintro v w12 ⟨p', d', hS⟩
      refine sgo ?_
      (first | refine fp1 (.inl rfl) rfl rfl ?_ | refine fp2 (.inl rfl) rfl rfl rfl ?_ | refine fp3 (.inl rfl) rfl rfl rfl rfl ?_ | refine fp0 (.inr rfl) rfl ?_ | refine fp0 (.inl rfl) rfl ?_ | refine fp1 (.inr rfl) rfl rfl ?_)
      exact ⟨b, p', d', rfl, hS⟩
    refine wcno ?_ (ht := decide_eq_false h1)
    refine sgo ?_
    refine wcutt (X := Unit) (fun _ => [(5, ptrAt (pb b) 0), (66, .bool (decide (name = nDt) || decide (name = nDd)))]) (fun _ wr => Sep w0 wr (wkP b q c u none 0 [] cs)) ?_ ?_
    · by_cases h2 : name = nDt
      · rw [decide_eq_true h2, Bool.true_or]
        refine wcyes ?_ (ht := decide_eq_true h2)
        refine sgo ?_
        refine ⟨(), ⟨rfl, ?_, trivial⟩, hS⟩
        exact congrArg Value.bool (decide_eq_true h2)
      · rw [decide_eq_false h2, Bool.false_or]
        refine wcno ?_ (ht := decide_eq_false h2)
        refine sgo ?_
        exact ⟨(), ⟨rfl, rfl, trivial⟩, hS⟩
    repeat clear hS
    rintro _ w12 ρ4 hS
    cases hd : (decide (name = nDt) || decide (name = nDd)) with
    | true =>
      rw [askE_d (by simpa using hd)]
      refine sgo ?_
      have hSw := hS
      unfold wkP at hS
      refine wlcall (named2_ok nDl w0 _ _ hS) ?_
      repeat clear hS
      clear hSw
      rintro _ w13 ⟨bD, rfl, hS⟩
      refine sgo ?_
      have h3 := hS.sel 3 [1, 2, 0]
      simp only [List.filterMap_cons, List.filterMap_nil, List.getElem?_cons_succ, List.getElem?_cons_zero, List.drop_succ_cons, List.drop_zero, List.cons_append, List.nil_append] at h3
      refine wlcall (nItem_ok (isNm nDl) nDl _ b q c u none 0 hc hl w0 _ _ hi (fvNamed (hS.own 0 rfl)) h3) ?_
      repeat clear hS
      clear h3
      rintro v w14 ⟨p', d', hS⟩
      refine sgo ?_
      (first | refine fp1 (.inl rfl) rfl rfl ?_ | refine fp2 (.inl rfl) rfl rfl rfl ?_ | refine fp3 (.inl rfl) rfl rfl rfl rfl ?_ | refine fp0 (.inr rfl) rfl ?_ | refine fp0 (.inl rfl) rfl ?_ | refine fp1 (.inr rfl) rfl rfl ?_)
      exact ⟨b, p', d', rfl, hS.sel 3 [0, 1]⟩
    | false =>
      simp only [Bool.or_eq_false_iff, decide_eq_false_iff_not] at hd
      rw [askE_other hp h1 hd.1 hd.2]
      refine sgo ?_
      refine wlcall (nInner_ok b q c u none 0 hc hl w0 _ cs hi hS) ?_
      repeat clear hS
      rintro v w13 ⟨p', d', hS⟩
      refine sgo ?_
      (first | refine fp1 (.inl rfl) rfl rfl ?_ | refine fp2 (.inl rfl) rfl rfl rfl ?_ | refine fp3 (.inl rfl) rfl rfl rfl rfl ?_ | refine fp0 (.inr rfl) rfl ?_ | refine fp0 (.inl rfl) rfl ?_ | refine fp1 (.inr rfl) rfl rfl ?_)
      exact ⟨b, p', d', rfl, hS⟩
end Go.Proofs.YtmnnffenijjpcaaDoor

/-
  Package nest: still, Right.
-/
set_option linter.unusedSimpArgs false
set_option linter.unusedVariables false
set_option linter.unnecessarySimpa false
namespace Go.Proofs.YtmnnffenijjpcaaDoor
open Go Go.Sv Go.RowKit

theorem still_len (s : List Nm) (name : Nm) : stillR s name = (decide ((askR s name).1.length = s.length) && decide ((askR s name).2.length = 0)) := by
  obtain ⟨i, hi⟩ := ask_pre s name
  unfold stillR
  rw [Bool.eq_iff_iff]
  simp only [Bool.and_eq_true, decide_eq_true_eq]
  constructor
  · intro h; rw [h]; exact ⟨rfl, rfl⟩
  · rintro ⟨h1, h2⟩
    have h3 : (askR s name).1 = s := by
      rw [hi] at h1 ⊢
      rw [List.length_take] at h1
      exact List.take_of_length_le (by omega)
    have h4 : (askR s name).2 = [] := List.eq_nil_of_length_eq_zero h2
    exact Prod.ext h3 h4
set_option maxHeartbeats 1000000 in
theorem nStill_ok (s : List Nm) (q : Option Addr) (c : Nat) (name : Nm) (hc : s.length ≤ c) (hl : s.length ≤ 4194304) (w : World) (hA : Asc w) (hi : Im [] w q (strs s)) :
    PureC Tryd.prog 58 #[.slice q s.length c, str name] w (.bool (stillR s name)) := by
  have hS := Sep.start w
  rw [still_len]
  refine enter (l := [.slice q s.length c, str name]) Tryd.func58 rfl Tryd.ntmps58 (by kernel_rfl) rfl ?_
  refine sgo ?_
  refine wlcall (nAsk_ok s q c name hc hl w w [] hA hi hS) ?_
  repeat clear hS
  rintro _ w1 ⟨b, p, d, rfl, hS⟩
  unfold wkP at hS
  generalize (askR s name).1 = u at *
  generalize (askR s name).2 = put at *
  refine sgo ?_
  (first | refine fp1 (.inl rfl) rfl rfl ?_ | refine fp2 (.inl rfl) rfl rfl rfl ?_ | refine fp3 (.inl rfl) rfl rfl rfl rfl ?_ | refine fp0 (.inr rfl) rfl ?_ | refine fp0 (.inl rfl) rfl ?_ | refine fp1 (.inr rfl) rfl rfl ?_); refine ⟨?_, by (first | exact Frm.refl _ | assumption | exact Go.Sv.Sep.frm (by assumption) | (refine Frm.trans ?_ (by assumption); first | exact Frm.refl _ | assumption))⟩; (try simp only [realB, rv_true, Nat.reduceBEq, cond_true, cond_false, entG, real_lif, updGL])
  rw [pkb_and]
  congr 2
  · exact decide_eq_decide.2 (by omega)
  · exact decide_eq_decide.2 (by omega)
/-- the first so many -/
def rightK (s : List Nm) (k : Nat) : Bool := (List.range k).all fun i => isAllow (s.getD i []) && !isVoid (s.getD i []) && stillR (s.take i) (s.getD i [])
theorem rightK_succ {s : List Nm} {k : Nat} {x : Nm} (h : s[k]? = some x) : rightK s (k + 1) = (rightK s k && (isAllow x && !isVoid x && stillR (s.take k) x)) := by
  unfold rightK
  rw [List.range_succ, List.all_append]
  simp [List.getD_eq_getElem?_getD, h]
theorem all_pre {p : Nat → Bool} {k n : Nat} (hk : k ≤ n) (h : (List.range k).all p = false) : (List.range n).all p = false := by
  rw [List.all_eq_false] at h ⊢
  obtain ⟨x, hx, hp⟩ := h
  exact ⟨x, List.mem_range.2 (by have := List.mem_range.1 hx; omega), hp⟩
set_option maxHeartbeats 4000000 in
theorem nRight_ok (s : List Nm) (q : Option Addr) (c : Nat) (hcc : s.length ≤ c) (hl : s.length ≤ 4194304) (w : World) (hA : Asc w) (hi : Im [] w q (strs s)) :
    PureC Tryd.prog 35 #[.slice q s.length c] w (.bool (rightR s)) := by
  have hsl := strs_len s
  refine enter (l := [.slice q s.length c]) Tryd.func35 rfl Tryd.ntmps35 (by kernel_rfl) rfl ?_
  refine sgo ?_
  refine wcloop (X := Nat) (fun k => [(0, .slice q s.length c), (5, .slice q s.length c), (6, int s.length), (7, int k)]) (fun k wr => k ≤ s.length ∧ rightK s k = true ∧ Frm w wr) (fun k => s.length - k) 0 ⟨rfl, rfl, rfl, rfl, trivial⟩ ⟨Nat.zero_le _, rfl, Frm.refl _⟩ ?_
  rintro k wr ρ ⟨hk, hr, hf⟩
  have hI := hi.frm hf
  refine sgo ?_
  (show WC _ _ _ _ _ _ _; first | refine WC_dec rfl (fun hc => ?_) (fun hc => ?_) | refine WC_cond rfl (fun hc => ?_) (fun hc => ?_))
  · have hlt : k < s.length := by omega
    obtain ⟨x, hx⟩ : ∃ x, s[k]? = some x := ⟨_, List.getElem?_eq_getElem hlt⟩
    have hxv := strs_at hx
    have hps : ∃ a, q = some a := hi.some (by omega)
    have hrk := rightK_succ hx
    have hltk : (s.take k).length = k := len_take hk
    have hst := fun w' (hf' : Frm w w') => nStill_ok (s.take k) q c x (by omega) (by omega) w' (hA.frm hf') ((take_succ_strs hi k).frm hf')
    rw [hltk] at hst
    clear hc
    refine sgo ?_
    refine wlpure (inK_ok 15 (by decide) x _ (hA.frm hf)) fun w1 hf1 => ?_
    replace hf := hf.trans hf1
    refine sgo ?_
    refine wlcallgp (vals := [str x, int (0 : Nat)]) (fun _ => inK_ok 0 (by decide) x _ (hA.frm hf)) fun w2 hf2 => ?_
    replace hf := hf.trans hf2
    refine sgo ?_
    refine wlcallgp (vals := [.slice q k c, str x]) (fun _ => hst _ hf) fun w3 hf3 => ?_
    replace hf := hf.trans hf3
    refine sgo ?_
    have hval : pkb (pkb (!inSet 15 x) true (inSet 0 x)) true (!stillR (s.take k) x) = !(isAllow x && !isVoid x && stillR (s.take k) x) := by
      rw [pkb_or, pkb_or]
      unfold isAllow isVoid
      cases inSet 15 x <;> cases inSet 0 x <;> cases stillR (s.take k) x <;> rfl
    cases hb : (isAllow x && !isVoid x && stillR (s.take k) x) with
    | true =>
      refine wcno ?_ (ht := by rw [hval, hb]; rfl)
      refine sgo ?_
      exact ⟨k + 1, ⟨rfl, rfl, rfl, rfl, trivial⟩, ⟨hlt, by rw [hrk, hr, hb]; rfl, hf⟩, by omega⟩
    | false =>
      refine wcyes ?_ (ht := by rw [hval, hb]; rfl)
      refine sgo ?_
      (first | refine fp1 (.inl rfl) rfl rfl ?_ | refine fp2 (.inl rfl) rfl rfl rfl ?_ | refine fp3 (.inl rfl) rfl rfl rfl rfl ?_ | refine fp0 (.inr rfl) rfl ?_ | refine fp0 (.inl rfl) rfl ?_ | refine fp1 (.inr rfl) rfl rfl ?_); refine ⟨?_, by (first | exact Frm.refl _ | assumption | exact Go.Sv.Sep.frm (by assumption) | (refine Frm.trans ?_ (by assumption); first | exact Frm.refl _ | assumption))⟩; (try simp only [realB, rv_true, Nat.reduceBEq, cond_true, cond_false, entG, real_lif, updGL])
      refine congrArg Value.bool ?_
      refine (all_pre (k := k + 1) hlt ?_).symm
      show rightK s (k + 1) = false
      rw [hrk, hb, Bool.and_false]
  · obtain rfl : k = s.length := by omega
    refine sgo ?_
    (first | refine fp1 (.inl rfl) rfl rfl ?_ | refine fp2 (.inl rfl) rfl rfl rfl ?_ | refine fp3 (.inl rfl) rfl rfl rfl rfl ?_ | refine fp0 (.inr rfl) rfl ?_ | refine fp0 (.inl rfl) rfl ?_ | refine fp1 (.inr rfl) rfl rfl ?_); refine ⟨?_, by (first | exact Frm.refl _ | assumption | exact Go.Sv.Sep.frm (by assumption) | (refine Frm.trans ?_ (by assumption); first | exact Frm.refl _ | assumption))⟩; (try simp only [realB, rv_true, Nat.reduceBEq, cond_true, cond_false, entG, real_lif, updGL])
    rw [← hr]; rfl
end Go.Proofs.YtmnnffenijjpcaaDoor

/-
  Lines of tokens, read: plain laws.
-/
set_option linter.unusedSimpArgs false
set_option linter.unusedVariables false
set_option linter.unnecessarySimpa false
namespace Go.Proofs.YtmnnffenijjpcaaDoor
open Go Go.Sv Go.RowKit

/-- behind a first mark: the text up to the next, and the rest -/
def unqR : List UInt8 → List UInt8 → Option (List UInt8 × List UInt8)
  | [], _ => none
  | c :: l, acc =>
    if c.toNat = 34 then some (acc, l)
    else if c.toNat = 9 then none
    else if c.toNat = 92 then
      match l with
      | [] => none
      | d :: l' => if d.toNat = 110 then unqR l' (acc ++ [10]) else if d.toNat = 116 then unqR l' (acc ++ [9]) else if d.toNat = 34 ∨ d.toNat = 92 then unqR l' (acc ++ [d]) else none
    else unqR l (acc ++ [c])
theorem unqR_cons (c : UInt8) (l acc : List UInt8) : unqR (c :: l) acc =
    if c.toNat = 34 then some (acc, l)
    else if c.toNat = 9 then none
    else if c.toNat = 92 then
      match l with
      | [] => none
      | d :: l' => if d.toNat = 110 then unqR l' (acc ++ [10]) else if d.toNat = 116 then unqR l' (acc ++ [9]) else if d.toNat = 34 ∨ d.toNat = 92 then unqR l' (acc ++ [d]) else none
    else unqR l (acc ++ [c]) := by
  cases l <;> rfl
/-- a quoted text at the front -/
def qtxR : List UInt8 → Option (List UInt8 × List UInt8)
  | [] => none
  | c :: l => if c.toNat = 34 then unqR l [] else none
theorem unqR_suf : ∀ (n : Nat) (l acc : List UInt8) (t r : List UInt8), l.length ≤ n → unqR l acc = some (t, r) → r <:+ l ∧ r.length < l.length ∧ t.length + r.length + 1 ≤ acc.length + l.length
  | n, [], acc, t, r, hn, h => by simp [unqR] at h
  | 0, c :: l, acc, t, r, hn, h => by simp at hn
  | n + 1, c :: l, acc, t, r, hn, h => by
    simp only [List.length_cons] at hn
    rw [unqR_cons] at h
    split at h
    · injection h with h; injection h with h1 h2
      subst h1 h2
      exact ⟨List.suffix_cons _ _, by simp, by simp; omega⟩
    split at h
    · cases h
    split at h
    · cases l with
      | nil => cases h
      | cons d l' =>
        simp only [List.length_cons] at hn
        have key : ∀ x : UInt8, unqR l' (acc ++ [x]) = some (t, r) → r <:+ c :: d :: l' ∧ r.length < (c :: d :: l').length ∧ t.length + r.length + 1 ≤ acc.length + (c :: d :: l').length := fun x hx => by
          obtain ⟨h1, h2, h3⟩ := unqR_suf n l' _ t r (by omega) hx
          simp only [List.length_append, List.length_cons, List.length_nil] at h3 ⊢
          exact ⟨h1.trans ((List.suffix_cons d l').trans (List.suffix_cons c _)), by omega, by omega⟩
        dsimp only at h
        split at h
        · exact key _ h
        split at h
        · exact key _ h
        split at h
        · exact key _ h
        · cases h
    · obtain ⟨h1, h2, h3⟩ := unqR_suf n l _ t r (by omega) h
      simp only [List.length_append, List.length_cons, List.length_nil] at h3 ⊢
      exact ⟨h1.trans (List.suffix_cons c l), by omega, by omega⟩
theorem textR_suf {s t r : List UInt8} (h : qtxR s = some (t, r)) : r <:+ s ∧ r.length < s.length ∧ t.length + r.length + 2 ≤ s.length := by
  cases s with
  | nil => cases h
  | cons c l =>
    by_cases hc : c.toNat = 34
    · rw [qtxR, if_pos hc] at h
      obtain ⟨h1, h2, h3⟩ := unqR_suf l.length l [] t r (Nat.le_refl _) h
      simp only [List.length_nil, List.length_cons] at h3 ⊢
      exact ⟨h1.trans (List.suffix_cons c l), by omega, by omega⟩
    · rw [qtxR, if_neg hc] at h
      cases h
/-- one attribute at the front: a blank, its name, =, its value -/
def at1R (s : List UInt8) : Option (At × List UInt8) :=
  match qtxR (s.drop 1) with
  | none => none
  | some (n, r) => if r.take 1 = [61] then (match qtxR (r.drop 1) with | none => none | some (v, r2) => some (⟨n, v⟩, r2)) else none
theorem at1R_suf {s r : List UInt8} {a : At} (h : at1R s = some (a, r)) : r <:+ s ∧ r.length < s.length ∧ a.n.length + a.v.length + r.length + 4 ≤ s.length := by
  unfold at1R at h
  cases h1 : qtxR (s.drop 1) with
  | none => rw [h1] at h; cases h
  | some x =>
    obtain ⟨n, r1⟩ := x
    rw [h1] at h
    dsimp only at h
    split at h
    · cases h2 : qtxR (r1.drop 1) with
      | none => rw [h2] at h; cases h
      | some y =>
        obtain ⟨v, r2⟩ := y
        rw [h2] at h
        injection h with h; injection h with h3 h4
        subst h3 h4
        obtain ⟨a1, a2, a3⟩ := textR_suf h1
        obtain ⟨b1, b2, b3⟩ := textR_suf h2
        rw [List.length_drop] at a2 a3 b2 b3
        exact ⟨b1.trans ((List.drop_suffix 1 _).trans (a1.trans (List.drop_suffix 1 _))), by omega, by dsimp only; omega⟩
    · cases h
/-- attributes at the front, as many as there are -/
def atsR (s : List UInt8) (acc : List At) : Option (List At × List UInt8) :=
  if s.take 2 = [32, 34] then
    match h : at1R s with
    | none => none
    | some (a, r) =>
      have := (at1R_suf h).2.1
      atsR r (acc ++ [a])
  else some (acc, s)
termination_by s.length
/-- the name or the text that a kind has -/
def headT (k : Nat) (s : List UInt8) : Option (List UInt8 × List UInt8 × List UInt8) :=
  if k = 4 then some ([], [], s)
  else if s.take 1 = [32] then
    match qtxR (s.drop 1) with
    | none => none
    | some (x, r) => if k = 1 ∨ k = 2 then some (x, [], r) else some ([], x, r)
  else none
/-- behind the kind's word -/
def tokR (k : Nat) (s : List UInt8) : Option Tok :=
  match headT k s with
  | none => none
  | some (nm, tx, r) =>
    match atsR r [] with
    | none => none
    | some (es, r2) => if (r2 = [] ∨ r2 = [32, 47]) ∧ mayR ⟨k, nm, tx, es, decide (r2 = [32, 47]), 0, 0, 0⟩ = true then some ⟨k, nm, tx, es, decide (r2 = [32, 47]), 0, 0, 0⟩ else none
def wordsL : List (List UInt8) := [wText, wStart, wEnd, wComment, wDoctype]
def readF : Nat → List (List UInt8) → List UInt8 → Option Tok
  | _, [], _ => none
  | k, x :: ws, s => if x.isPrefixOf s = true then tokR k (s.drop x.length) else readF (k + 1) ws s
/-- a line, read -/
def readR (s : List UInt8) : Option Tok := readF 0 wordsL s
/-! ## lines -/
def linesG : List UInt8 → List UInt8 → List (List UInt8)
  | [], cur => if cur = [] then [] else [cur]
  | c :: l, cur => if c.toNat = 10 then cur :: linesG l [] else linesG l (cur ++ [c])
/-- a text's lines; a last one may lack its end -/
def linesR (s : List UInt8) : List (List UInt8) := linesG s []
/-- the tokens of lines, or the number of the first that is none -/
def parseF : Nat → List (List UInt8) → List Tok → List Tok × Nat
  | _, [], acc => (acc, 0)
  | n, x :: ls, acc => match readR x with | none => ([], n) | some t => parseF (n + 1) ls (acc ++ [t])
def parseR (s : List UInt8) : List Tok × Nat := parseF 1 (linesR s) []
end Go.Proofs.YtmnnffenijjpcaaDoor

/-
  Lines of tokens, read as the document does: plain laws.
-/
set_option linter.unusedSimpArgs false
set_option linter.unusedVariables false
set_option linter.unnecessarySimpa false
namespace Go.Proofs.YtmnnffenijjpcaaDoor
open Go Go.Sv Go.RowKit

end Go.Proofs.YtmnnffenijjpcaaDoor

/-
  Regions that draw and write: guarded operations.
-/
set_option linter.unusedSimpArgs false
set_option linter.unusedVariables false
set_option linter.unnecessarySimpa false
namespace Go.Sv
open Go Go.RowKit
section
variable {P : Program} {ops : Array Oper} {S : (Nat → Bool) → World → Prop} {Qf : Env → Prop} {rest : List Oper} {σ : GE} {v : Value} {d k : Nat} {op : Op} {ty : TypeId} {pos : String} {af : Array Edge} {j dj : Nat} {want b c : Bool}
end
end Go.Sv

/-
  Deferred functions that recover.
-/
set_option linter.unusedSimpArgs false
set_option linter.unusedVariables false
set_option linter.unnecessarySimpa false
namespace Go.Sv
open Go Go.RowKit

/-- what recover hands to a deferred function, by the mode of the frame below it, and how it leaves that mode -/
inductive Recov : FrameMode → Value → FrameMode → Prop
  | panicking (v : Value) (older : List PanicEntry) : Recov (.panicking ({ v := v, recovered := false } :: older)) v (.panicking ({ v := v, recovered := true } :: older))
  | returning : Recov .returning .nilIface .returning
/-- a deferred function's end, the frame below in a mode -/
def fpostD (P : Program) (n : Nat) (fn : Func) (u : FrameMode) (R : Ending → FrameMode → World → Prop) : Exit → Ctx → Env → World → Prop
  | .normal, c, σ, w | .ret, c, σ, w => c.ds = [] ∧ ∃ v, (results fn (act n c.ds σ).tmps).run P w = .ok v w ∧ R (.returned v) u w
  | .panic ch, c, _, w => c.ds = [] ∧ R (.panicked ch) u w
  | _, _, _, _ => False
section
variable {P : Program} {n : Nat} {fn : Func} {R : Ending → FrameMode → World → Prop} {u u' : FrameMode} {w : World}
end
/-- a call that returns, or panics -/
def CallsP (P : Program) (f : FuncId) (args : Array Value) (w : World) (R : Value → World → Prop) (S : List PanicEntry → World → Prop) : Prop :=
  Calls P f args w fun e w' => (∃ v, e = .returned v ∧ R v w') ∨ ∃ ch, e = .panicked ch ∧ S ch w'
section
variable {P : Program} {n : Nat} {ds : Ctx} {ops : Array Oper} {Q : Exit → Ctx → Env → World → Prop} {rest : List Oper} {σ : GE} {w : World} {v : Value} {d : Nat} {ty : TypeId} {pos : String} {af : Array Edge}
end
section
variable {P : Program} {n : Nat} {fn : Func} {R : Value → World → Prop} {S : List PanicEntry → World → Prop} {w : World} {σ : Env} {ds : Ctx}
end
section
variable {P : Program} {n : Nat} {ds : Ctx} {ops : Array Oper} {Q : Exit → Ctx → Env → World → Prop} {rest : List Oper} {σ : GE} {w : World} {ty : TypeId} {pos : String} {af : Array Edge}
end
end Go.Sv

/-
  Package sieveref07, reading: Unquote, cut.
-/
set_option linter.unusedSimpArgs false
set_option linter.unusedVariables false
set_option linter.unnecessarySimpa false
namespace Go.Proofs.YtmnnffenijjpcaaDoor
open Go Go.Sv Go.RowKit

def unqV (s : List UInt8) (o : Option (List UInt8 × List UInt8)) : Value := match o with
  | some (t, r) => .tuple #[str t, str r, .bool true]
  | none => .tuple #[str [], str s, .bool false]
def rcutV (s p : List UInt8) : Value := .tuple #[str (if p.isPrefixOf s = true then s.drop p.length else s), .bool (p.isPrefixOf s)]
end Go.Proofs.YtmnnffenijjpcaaDoor

/-
  A builder as a piece of memory.
-/
set_option linter.unusedSimpArgs false
set_option linter.unusedVariables false
set_option linter.unnecessarySimpa false
namespace Go.Sv
open Go Go.RowKit
def pBld (T E : TypeId) (b : Nat) (q : Option Addr) (s : List UInt8) : Plot where
  foot := b :: rb q
  ok w := Bld T E w b q s
  view := (none, [])
  loc w w' h hb := by
    obtain ⟨pv, c, h⟩ := h
    refine ⟨pv, c, h.hp, (hb b List.mem_cons_self).trans h.cell, ⟨h.row.1, ?_⟩, h.ne⟩
    rcases h.row.2 with h1 | ⟨g, cap, cur, hv, h2, h3, h4⟩
    · exact .inl h1
    · exact .inr ⟨g, cap, cur, hv, h2, (hb g (List.mem_cons_of_mem _ (rb_own.1 (by rw [hv]; rfl)))).trans h3, h4⟩
  lt w h := h.lt
  sg _ _ := .inl rfl
section
variable {w0 w w' : World} {cs : List Plot} {T E : TypeId} {b : Nat} {q q' : Option Addr} {s s' : List UInt8}
/-- what is above a place is given away -/
theorem Sep.below {B : Nat} (h : Sep w0 w cs) (hB : w0.heap.size ≤ B) (hc : ∀ c ∈ cs, ∀ x ∈ c.foot, x < B) (hb : Below B w w') : Sep w0 w' cs :=
  ⟨Below.trans h.frm (hb.mono hB), fun c hcc => c.loc w w' (h.ok c hcc) fun x hx => hb.block x (hc c hcc x hx), h.low, h.apart⟩
end
end Go.Sv

/-
  Package token, reading: take, text.
-/
set_option linter.unusedSimpArgs false
set_option linter.unusedVariables false
set_option linter.unnecessarySimpa false
namespace Go.Proofs.YtmnnffenijjpcaaDoor
open Go Go.Sv Go.RowKit








































end Go.Proofs.YtmnnffenijjpcaaDoor

/-
  Package token, reading: a token.
-/
set_option linter.unusedSimpArgs false
set_option linter.unusedVariables false
set_option linter.unnecessarySimpa false
namespace Go.Proofs.YtmnnffenijjpcaaDoor
open Go Go.Sv Go.RowKit

/-- what is read of a line is small -/
def lineS (s : List UInt8) : Prop := ∀ (k : Nat) (x nm tx r0 : List UInt8) (es : List At) (r : List UInt8), wordsL[k]? = some x → x.isPrefixOf s = true → headT k (s.drop x.length) = some (nm, tx, r0) → atsR r0 [] = some (es, r) →
  nm.length ≤ 1048576 ∧ tx.length ≤ 1048576 ∧ es.length ≤ 1048576 ∧ ∀ a ∈ es, a.small
def zeroV : List Value := [int 0, str [], str [], .slice none 0 0, .bool false, int 0, int 0, int 0]


















































































































































































































































































































































end Go.Proofs.YtmnnffenijjpcaaDoor

/-
  Package sieveref07, reading: a line.
-/
set_option linter.unusedSimpArgs false
set_option linter.unusedVariables false
set_option linter.unnecessarySimpa false
namespace Go.Sv
open Go Go.RowKit
/-- two results: a struct that lies in a cell, and a value -/
theorem fp_ct {P : Program} {n : Nat} {fn : Func} {R : Value → World → Prop} {σ : Env} {w : World} {t1 t2 : Nat} {y1 : TypeId} {ex : Exit} {b1 : Nat} {l : List Value} {zv : Value} {bytes : Nat} {ds : Ctx} (hex : ex = .ret ∨ ex = .normal) (hr : fn.results = #[.cell t1 y1, .tmp t2])
    (ht : (Nat.blt t1 n && Nat.blt t2 n) = true) (hp : σ t1 = .pointer (pb b1)) (o1 : Own w b1 l)
    [h1 : Agg P y1 true] [hi : Inf P y1 zv l.length bytes] (h : R (.tuple #[.agg l.toArray, σ t2]) w) (hd : ds.ds = [] := by rfl) : fpost P n fn R ex ds σ w := by
  simp only [Bool.and_eq_true] at ht
  obtain ⟨ht1, ht2⟩ := ht
  obtain ⟨T1, o1⟩ := o1
  refine fp_of hex hd ?_ h
  have g : (act n ds.ds σ).tmps[t1]?.getD undef = .pointer (pb b1) := by
    have : (act n ds.ds σ).tmps.getD t1 undef = .pointer (pb b1) := by rw [act_getD ht1]; exact hp
    simpa using this
  have g2 : (act n ds.ds σ).tmps[t2]?.getD undef = σ t2 := by
    have : (act n ds.ds σ).tmps.getD t2 undef = σ t2 := by rw [act_getD ht2]
    simpa using this
  obtain ⟨dd, hd1, hd2⟩ := h1.ok
  obtain ⟨i, hi1, hi2, hi3, hi4⟩ := inf_size (P := P) (t := y1)
  have c1 := run_loadVar_row (P := P) w b1 T1 y1 l.toArray (0, 0) dd o1 hd1 (by revert hd2; cases dd <;> exact id) (by rw [hi1]; simp [hi3])
  simp [results, hr, g, g2, asAddr, pb, c1]
end Go.Sv
namespace Go.Proofs.YtmnnffenijjpcaaDoor
open Go Go.Sv Go.RowKit

def tkp (k : Nat) (y : List UInt8) : Tok := if k = 2 then ⟨k, y, [], [], false, 0, 0, 0⟩ else ⟨k, [], y, [], false, 0, 0, 0⟩
def zerV : List Value := [int 0, str [], str [], .slice none 0 0, .bool false, int 0, int 0, int 0]
def okT (s rest : List UInt8) (ok : Bool) (t : Tok) : Prop := readR s = if (ok = true ∧ rest = []) ∧ mayR t = true then some t else none
def strF (s nm rest : List UInt8) (acc : List At) (ok : Bool) : Prop :=
  if ok = true then readR s = (match atsR rest acc with
        | none => none
        | some (es, r2) => if (r2 = [] ∨ r2 = [32, 47]) ∧ mayR ⟨(1 : Nat), nm, [], es, decide (r2 = [32, 47]), 0, 0, 0⟩ = true then some ⟨(1 : Nat), nm, [], es, decide (r2 = [32, 47]), 0, 0, 0⟩ else none)
  else readR s = none
end Go.Proofs.YtmnnffenijjpcaaDoor

/-
  Package nest: plans; Open, Text, End.
-/
set_option linter.unusedSimpArgs false
set_option linter.unusedVariables false
set_option linter.unnecessarySimpa false
namespace Go.Proofs.YtmnnffenijjpcaaDoor
open Go Go.Sv Go.RowKit

set_option maxHeartbeats 1000000 in
theorem cloneStr_ok (l : List Nm) (p : Option Addr) (c : Nat) (hn : l.length ≤ 1048576) (w : World) (hi : Im [] w p (strs l)) :
    CallsR Tryd.prog 65 #[.slice p l.length c] w fun v w' => ∃ q cc, v = .slice q l.length cc ∧ Sep w w' [pRow 1 q l.length cc (strs l)] := by
  have hS := Sep.start w
  have hl1 := strs_len l
  refine enter (l := [.slice p l.length c]) Tryd.func65 rfl Tryd.ntmps65 (by kernel_rfl) rfl ?_
  refine sgo ?_
  refine wl ?_ (y_slnil rfl rfl)
  cases p with
  | none =>
    have he : l = [] := by
      rcases hi with h | ⟨a, h, _⟩
      · exact List.length_eq_zero_iff.1 (by rw [h] at hl1; simp at hl1; omega)
      · cases h
    subst he
    refine sgo ?_
    (first | refine fp1 (.inl rfl) rfl rfl ?_ | refine fp2 (.inl rfl) rfl rfl rfl ?_ | refine fp3 (.inl rfl) rfl rfl rfl rfl ?_ | refine fp0 (.inr rfl) rfl ?_ | refine fp0 (.inl rfl) rfl ?_ | refine fp1 (.inr rfl) rfl rfl ?_)
    exact ⟨none, 0, rfl, hS.nilRow 1⟩
  | some a =>
    rw [show (some a).isNone = false from rfl]
    refine sgo ?_
    refine sb0 hS fun b5 w5 hS => ?_
    refine sgo ?_
    refine sapp hS 0 (hi.sep hS).sg (fun q2 c2 w6 hS => ?_) (hl := by omega) (h1 := strs_one l)
    rw [List.nil_append, show 0 + l.length = l.length from Nat.zero_add _] at hS
    rw [show 0 + l.length = l.length from Nat.zero_add _]
    refine sgo ?_
    (first | refine fp1 (.inl rfl) rfl rfl ?_ | refine fp2 (.inl rfl) rfl rfl rfl ?_ | refine fp3 (.inl rfl) rfl rfl rfl rfl ?_ | refine fp0 (.inr rfl) rfl ?_ | refine fp0 (.inl rfl) rfl ?_ | refine fp1 (.inr rfl) rfl rfl ?_)
    exact ⟨q2, c2, rfl, hS⟩
def pnP (b b4 : Nat) (q p : Option Addr) (c d sn un : Nat) (put : List Nm) : PlanB (Option Addr × Nat) where
  pl k d := match k with
    | 12 => [pRow 1 d.x.1 put.length d.x.2 (strs put)]
    | 14 => [pOwn b4 [.int .i64 ((sn : Int) - (un : Int)), .slice d.x.1 put.length d.x.2, .bool false]]
    | _ => []
  con k := match k with
    | _ => none
  base k := match k with
    | 14 => [pOwn b4 [int 0, .slice none 0 0, .bool false]]
    | _ => []
  fact k a := match k with
    | 0 => (a 0).v = .slice q sn c
    | 1 => (a 1).v = int sn
    | 2 => (a 2).v = ptrAt (pb b) 0
    | 3 => (a 3).v = ptrAt (pb b) 0
    | 4 => (a 4).v = ptrAt (pb b) 0
    | 5 => (a 5).v = .slice q un c
    | 6 => (a 6).v = int un
    | 7 => (a 7).v = .int .i64 ((sn : Int) - (un : Int))
    | 8 => (a 8).v = ptrAt (pb b) 0
    | 9 => (a 9).v = ptrAt (pb b) 0
    | 10 => (a 10).v = ptrAt (pb b) 1
    | 11 => (a 11).v = .slice p put.length d
    | 12 => (a 12).v = .slice (a 12).x.1 put.length (a 12).x.2
    | 13 => (a 13).v = .agg ⟨[.int .i64 ((sn : Int) - (un : Int)), .slice (a 13).x.1 put.length (a 13).x.2, .bool false]⟩ ∧ (a 13).x = (a 12).x
    | 14 => (a 14).x = (a 13).x
    | _ => True
set_option maxHeartbeats 4000000 in
theorem nPlan_ok (s u put : List Nm) (b : Nat) (q p : Option Addr) (c d : Nat) (hu : u.length ≤ s.length) (hl : s.length ≤ 4194304) (hp : put.length ≤ 1048576) (w : World) (cs : List Plot) (w0 : World) (hS0 : Sep w0 w (wkP b q c u p d put cs)) :
    CallsR Tryd.prog 37 #[ptrAt (pb b) 0, .slice q s.length c] w fun v w' => ∃ q' c', v = .agg ⟨[int (s.length - u.length : Nat), .slice q' put.length c', .bool false]⟩ ∧ Sep w0 w' (pRow 1 q' put.length c' (strs put) :: cs) := by
  unfold wkP at hS0
  have hS := hS0
  refine enter (l := [ptrAt (pb b) 0, .slice q s.length c]) Tryd.func37 rfl Tryd.ntmps37 (by kernel_rfl) rfl ?_
  refine sgo ?_
  refine salloc hS fun b4 w1 hS => ?_
  replace hS : Sep w0 w1 ([pOwn b4 [int 0, .slice none 0 0, .bool false]] ++ (pOwn b [.slice q u.length c, .slice p put.length d] :: pRow 1 p put.length d (strs put) :: cs)) := hS
  refine sgo ?_
  refine wcplanb (b := [pOwn b4 [int 0, .slice none 0 0, .bool false]]) (pnP b b4 q p c d s.length u.length put) ⟨.nilIface, none, 0, 0, (none, 0)⟩ hS rfl (fun j oj a a' hj he hd h => ?_) ⟨?_, ?_, ?_, ?_, ?_, ?_, ?_, ?_, ?_, ?_, ?_, ?_, ?_, ?_, ?_, trivial⟩ ?_
  · have hjl : j < 15 := (List.getElem?_eq_some_iff.1 hj).1
    match j, hjl with
    | 0, _ | 1, _ | 2, _ | 3, _ | 4, _ | 5, _ | 6, _ | 7, _ | 8, _ | 9, _ | 10, _ | 11, _ | 12, _ => first | (simp only [pnP] at h ⊢; rw [← he]; exact h) | exact h
    | 13, _ => simp only [pnP] at h ⊢; rw [← he, ← hd 12 (by cases hj; rfl)]; exact h
    | 14, _ => simp only [pnP] at h ⊢; rw [← he, ← hd 13 (by cases hj; rfl)]; exact h
  · intro a σ' w' rest hσ hdep hS'   -- 0: move; pieces: sees 14 ..
    have e1 : σ' 1 = .slice q s.length c := (hσ 1 (notDstB rfl)).trans rfl
    exact rule_e [(1, _)] ⟨e1, trivial⟩ ⟨⟨.slice q s.length c, none, 0, 0, (none, 0)⟩, rfl, rfl, hS'⟩
  · intro a σ' w' rest hσ hdep hS'   -- 1: call; pieces: sees 14 ..
    have f0 := (hdep 0 _ rfl rfl).2
    have e5 := ((hdep 0 _ rfl rfl).1 5 rfl).trans f0
    exact rule_y (y_len e5 rfl) ⟨⟨int s.length, none, 0, 0, (none, 0)⟩, rfl, rfl, hS'⟩
  · intro a σ' w' rest hσ hdep hS'   -- 2: move; pieces: sees 14 ..
    have e0 : σ' 0 = ptrAt (pb b) 0 := (hσ 0 (notDstB rfl)).trans rfl
    exact rule_e [(0, _)] ⟨e0, trivial⟩ ⟨⟨ptrAt (pb b) 0, none, 0, 0, (none, 0)⟩, rfl, rfl, hS'⟩
  · intro a σ' w' rest hσ hdep hS'   -- 3: nilCheck; pieces: sees 14 ..
    have f2 := (hdep 2 _ rfl rfl).2
    have e7 := ((hdep 2 _ rfl rfl).1 7 rfl).trans f2
    exact rule_y (y_nilcheckp e7 ⟨_, rfl⟩) ⟨⟨ptrAt (pb b) 0, none, 0, 0, (none, 0)⟩, rfl, rfl, hS'⟩
  · intro a σ' w' rest hσ hdep hS'   -- 4: fieldAddr; pieces: sees 14 ..
    have f3 := (hdep 3 _ rfl rfl).2
    have e8 := ((hdep 3 _ rfl rfl).1 8 rfl).trans f3
    exact rule_y (y_field e8 ⟨_, rfl⟩ (by decide)) ⟨⟨ptrAt (pb b) 0, none, 0, 0, (none, 0)⟩, rfl, rfl, hS'⟩
  · intro a σ' w' rest hσ hdep hS'   -- 5: load; pieces: sees 14 ..
    have f4 := (hdep 4 _ rfl rfl).2
    have e9 := ((hdep 4 _ rfl rfl).1 9 rfl).trans f4
    exact rule_y (y_load e9 (Sep.sgv hS' 1 rfl) rfl) ⟨⟨.slice q u.length c, none, 0, 0, (none, 0)⟩, rfl, rfl, hS'⟩
  · intro a σ' w' rest hσ hdep hS'   -- 6: call; pieces: sees 14 ..
    have f5 := (hdep 5 _ rfl rfl).2
    have e10 := ((hdep 5 _ rfl rfl).1 10 rfl).trans f5
    exact rule_y (y_len e10 rfl) ⟨⟨int u.length, none, 0, 0, (none, 0)⟩, rfl, rfl, hS'⟩
  · intro a σ' w' rest hσ hdep hS'   -- 7: binOp; pieces: sees 14 ..
    have f1 := (hdep 1 _ rfl rfl).2
    have e6 := ((hdep 1 _ rfl rfl).1 6 rfl).trans f1
    have f6 := (hdep 6 _ rfl rfl).2
    have e11 := ((hdep 6 _ rfl rfl).1 11 rfl).trans f6
    exact rule_y (y_sub64 e6 e11 ⟨by omega, by omega⟩) ⟨⟨.int .i64 ((s.length : Int) - (u.length : Int)), none, 0, 0, (none, 0)⟩, rfl, rfl, hS'⟩
  · intro a σ' w' rest hσ hdep hS'   -- 8: move; pieces: sees 14 ..
    have e0 : σ' 0 = ptrAt (pb b) 0 := (hσ 0 (notDstB rfl)).trans rfl
    exact rule_e [(0, _)] ⟨e0, trivial⟩ ⟨⟨ptrAt (pb b) 0, none, 0, 0, (none, 0)⟩, rfl, rfl, hS'⟩
  · intro a σ' w' rest hσ hdep hS'   -- 9: nilCheck; pieces: sees 14 ..
    have f8 := (hdep 8 _ rfl rfl).2
    have e13 := ((hdep 8 _ rfl rfl).1 13 rfl).trans f8
    exact rule_y (y_nilcheckp e13 ⟨_, rfl⟩) ⟨⟨ptrAt (pb b) 0, none, 0, 0, (none, 0)⟩, rfl, rfl, hS'⟩
  · intro a σ' w' rest hσ hdep hS'   -- 10: fieldAddr; pieces: sees 14 ..
    have f9 := (hdep 9 _ rfl rfl).2
    have e14 := ((hdep 9 _ rfl rfl).1 14 rfl).trans f9
    exact rule_y (y_field e14 ⟨_, rfl⟩ (by decide)) ⟨⟨ptrAt (pb b) 1, none, 0, 0, (none, 0)⟩, rfl, rfl, hS'⟩
  · intro a σ' w' rest hσ hdep hS'   -- 11: load; pieces: sees 14 ..
    have f10 := (hdep 10 _ rfl rfl).2
    have e15 := ((hdep 10 _ rfl rfl).1 15 rfl).trans f10
    exact rule_y (y_load e15 (Sep.sgv hS' 1 rfl) rfl) ⟨⟨.slice p put.length d, none, 0, 0, (none, 0)⟩, rfl, rfl, hS'⟩
  · intro a σ' w' rest hσ hdep hS'   -- 12: call; pieces: sees 14 ..
    have f11 := (hdep 11 _ rfl rfl).2
    have e16 := ((hdep 11 _ rfl rfl).1 16 rfl).trans f11
    refine rule_call (vals := [.slice p put.length d]) (cloneStr_ok put p d (by omega) w' (hS'.im 2 rfl)) (fun v w2 hR => ?_) (am1 e16)
    obtain ⟨q7, c7, rfl, hS2⟩ := hR
    exact ⟨⟨.slice q7 put.length c7, none, 0, 0, (q7, c7)⟩, rfl, rfl, hS'.seq hS2⟩
  · intro a σ' w' rest hσ hdep hS'   -- 13: build; pieces: sees 14 ..
    have f7 := (hdep 7 _ rfl rfl).2
    have e12 := ((hdep 7 _ rfl rfl).1 12 rfl).trans f7
    have f12 := (hdep 12 _ rfl rfl).2
    have e17 := ((hdep 12 _ rfl rfl).1 17 rfl).trans f12
    exact rule_y (y_build (cells := [.int .i64 ((s.length : Int) - (u.length : Int)), .slice (a 12).x.1 put.length (a 12).x.2, .bool false]) (by rw [bm2 (x := .tmp 12) (y := .tmp 17) e12 e17]; simp [fillL, setSeg, Value.cells] <;> rfl)) ⟨⟨.agg ⟨[.int .i64 ((s.length : Int) - (u.length : Int)), .slice (a 12).x.1 put.length (a 12).x.2, .bool false]⟩, none, 0, 0, (a 12).x⟩, rfl, ⟨rfl, rfl⟩, hS'⟩
  · intro a σ' w' rest hσ hdep hS'   -- 14: store; pieces: base 14 ..
    have e4 : σ' 4 = ptrAt (pb b4) 0 := (hσ 4 (notDstB rfl)).trans rfl
    have f13 := (hdep 13 _ rfl rfl).2
    have e18 := ((hdep 13 _ rfl rfl).1 18 rfl).trans f13.1
    obtain ⟨w2, hy, hS2⟩ := y_sst (P := Tryd.prog) (t := 63) (x := .tmp 4) (y := .tmp 18) hS' 0 rfl e4 (e18) rfl (Nat.le_of_ble_eq_true rfl) (by simp [Go.Value.cells, Go.Value.oneCell'])
    exact rule_y hy ⟨⟨undef, none, 0, 0, (a 13).x⟩, rfl, rfl, hS2⟩
  · intro a σ' w' hσ hA' hS'
    have h14 := hA' 14 _ rfl
    have h13 := hA' 13 _ rfl
    rw [frameOf (σ := σ') [(4, ptrAt (pb b4) 0)] ⟨(hσ 4 (notDst rfl)).trans rfl, trivial⟩]
    replace hS' : Sep w0 w' (pRow 1 (a 12).x.1 put.length (a 12).x.2 (strs put) :: pOwn b4 [.int .i64 ((s.length : Int) - (u.length : Int)), .slice (a 14).x.1 put.length (a 14).x.2, .bool false] :: pOwn b [.slice q u.length c, .slice p put.length d] :: pRow 1 p put.length d (strs put) :: cs) := hS'
    rw [h14.2, h13.2.2, show ((s.length : Int) - (u.length : Int)) = ((s.length - u.length : Nat) : Int) by omega] at hS'
    refine sgo ?_
    refine fpc (.inl rfl) rfl rfl rfl (hS'.own 1 rfl) ?_
    exact ⟨_, _, rfl, hS'.sel 4 [0]⟩
end Go.Proofs.YtmnnffenijjpcaaDoor

/-
  Package nest: Open, Text, End.
-/
set_option linter.unusedSimpArgs false
set_option linter.unusedVariables false
set_option linter.unnecessarySimpa false
namespace Go.Proofs.YtmnnffenijjpcaaDoor
open Go Go.Sv Go.RowKit

/-- a plan: so many ends, these names, the text dropped, the error's number -/
structure PlanR where
  ends : Nat
  put : List Nm
  drop : Bool
  err : Nat
def errR (e : Nat) : PlanR := ⟨0, [], false, e⟩
def planR (s : List Nm) (x : List Nm × List Nm) : PlanR := ⟨s.length - x.1.length, x.2, false, 0⟩
def openR (s : List Nm) (name : Nm) : PlanR :=
  if rightR s = false then errR 161 else if isAllow name = false then errR 160 else planR s (askR s name)
/-- what Open and Text give -/
def PlanV (p : PlanR) (w0 : World) (cs : List Plot) (v : Value) (w' : World) : Prop :=
  ∃ q' c', v = .tuple #[.agg ⟨[int p.ends, .slice q' p.put.length c', .bool p.drop]⟩, int p.err] ∧ Sep w0 w' (pRow 1 q' p.put.length c' (strs p.put) :: cs)
theorem askR_le (s : List Nm) (name : Nm) : (askR s name).1.length ≤ s.length := by
  obtain ⟨i, hi⟩ := ask_pre s name
  rw [hi, List.length_take]; omega
theorem partPut_len (a n : Nm) : (partPut a n).length ≤ 2 := by
  unfold partPut
  repeat' split
  all_goals decide
theorem ask_put_len (s : List Nm) (name : Nm) : (askR s name).2.length ≤ 6 := by
  unfold askR askE
  generalize ask3 name (ask2 name (ask1 name (ask0 s))) = u
  have h1 := fun n => innerP_len n
  have h2 := fun a n => partPut_len a n
  split
  · unfold ownR
    split
    · exact Nat.le_trans (h2 _ _) (by omega)
    · simp only [List.length_append, List.length_singleton]
      have := h1 (topR (innerS (cutW u (tpm (isNm nP) isWall u))))
      have := h2 name nTable
      omega
  split
  · unfold itemR
    split
    · simp
    · simp only [List.length_append, List.length_singleton]
      have := h1 (topR (innerS u))
      omega
  split
  · unfold itemR
    split
    · simp
    · simp only [List.length_append, List.length_singleton]
      have := h1 (topR (innerS u))
      omega
  · have := h1 (topR (innerS u))
    show (innerP (topR (innerS u))).length ≤ 6
    omega
set_option maxHeartbeats 4000000 in
theorem nOpen_ok (s : List Nm) (q : Option Addr) (c : Nat) (name : Nm) (hcc : s.length ≤ c) (hll : s.length ≤ 4194304) (w0 w : World) (cs : List Plot) (hA : Asc w0) (his : Im [] w0 q (strs s)) (hS : Sep w0 w cs) :
    CallsR Tryd.prog 24 #[.slice q s.length c, str name] w fun v w' => PlanV (openR s name) w0 cs v w' := by
  have hal := askR_le s name
  have hpl := ask_put_len s name
  refine enter (l := [.slice q s.length c, str name]) Tryd.func24 rfl Tryd.ntmps24 (by kernel_rfl) rfl ?_
  refine sgo ?_
  refine salloc hS fun b4 w1 hS => ?_
  replace hS : Sep w0 w1 (pOwn b4 [int 0, .slice none 0 0, .bool false] :: cs) := hS
  refine sgo ?_
  refine wlpure (nRight_ok s q c hcc hll _ (hA.frm hS.frm) (his.frm hS.frm)) fun w2 hf2 => ?_
  replace hS := hS.grow hf2
  unfold openR
  cases hr : rightR s with
  | false =>
    rw [if_pos rfl]
    refine sgo ?_
    refine wlbuild (cells := [int 0, .slice none 0 0, .bool false]) ?_
    refine sgo ?_
    refine ssta (vs := [int 0, .slice none 0 0, .bool false]) hS 0 fun w3 hS => ?_
    refine sgo ?_
    refine fp_ct (.inl rfl) rfl rfl rfl (hS.own 0 rfl) ?_
    exact ⟨none, 0, rfl, hS.tail.nilRow 1⟩
  | true =>
    rw [if_neg (by simp)]
    refine sgo ?_
    refine wlpure (inK_ok 15 (by decide) name _ (hA.frm hS.frm)) fun w3 hf3 => ?_
    replace hS := hS.grow hf3
    unfold isAllow
    cases ha : inSet 15 name with
    | false =>
      rw [if_pos rfl]
      refine sgo ?_
      refine wlbuild (cells := [int 0, .slice none 0 0, .bool false]) ?_
      refine sgo ?_
      refine ssta (vs := [int 0, .slice none 0 0, .bool false]) hS 0 fun w3 hS => ?_
      refine sgo ?_
      refine fp_ct (.inl rfl) rfl rfl rfl (hS.own 0 rfl) ?_
      exact ⟨none, 0, rfl, hS.tail.nilRow 1⟩
    | true =>
      rw [if_neg (by simp)]
      refine sgo ?_
      refine wlcall (nAsk_ok s q c name hcc hll w0 _ _ hA his hS) ?_
      repeat clear hS
      rintro _ w4 ⟨b, p, d, rfl, hS⟩
      refine sgo ?_
      refine wlcall (nPlan_ok s (askR s name).1 (askR s name).2 b q p c d hal hll (by omega) _ _ w0 hS) ?_
      repeat clear hS
      rintro _ w5 ⟨q7, c7, rfl, hS⟩
      refine sgo ?_
      refine ssta (vs := [int (s.length - (askR s name).1.length : Nat), .slice q7 (askR s name).2.length c7, .bool false]) hS 1 fun w6 hS => ?_
      refine sgo ?_
      refine fp_ct (.inl rfl) rfl rfl rfl (hS.own 1 rfl) ?_
      exact ⟨q7, c7, rfl, hS.sel 2 [0]⟩

def nTextR (s : List Nm) (blank : Bool) : PlanR :=
  if rightR s = false then errR 161 else if topR s = nTextarea then errR 0
  else if blank && (decide (topR s = nColgroup) || decide (topR s = nTable) || isGroup (topR s) || decide (topR s = nTr) || isLst (topR s) || decide (topR s = nDl)) then ⟨0, [], true, 0⟩
  else planR s (innerR s)
set_option maxHeartbeats 8000000 in
theorem nText_ok (s : List Nm) (q : Option Addr) (c : Nat) (bl : Bool) (hcc : s.length ≤ c) (hll : s.length ≤ 4194304) (w0 w : World) (cs : List Plot) (hA : Asc w0) (his : Im [] w0 q (strs s)) (hS : Sep w0 w cs) :
    CallsR Tryd.prog 30 #[.slice q s.length c, .bool bl] w fun v w' => PlanV (nTextR s bl) w0 cs v w' := by
  have hal := innerS_le s
  have hpl := innerP_len (topR (innerS s))
  refine enter (l := [.slice q s.length c, .bool bl]) Tryd.func30 rfl Tryd.ntmps30 (by kernel_rfl) rfl ?_
  refine sgo ?_
  refine salloc hS fun b4 w1 hS => ?_
  replace hS : Sep w0 w1 (pOwn b4 [int 0, .slice none 0 0, .bool false] :: cs) := hS
  refine sgo ?_
  refine wlpure (nRight_ok s q c hcc hll _ (hA.frm hS.frm) (his.frm hS.frm)) fun w2 hf2 => ?_
  replace hS := hS.grow hf2
  unfold nTextR
  cases hr : rightR s with
  | false =>
    rw [if_pos rfl]
    refine sgo ?_
    refine wlbuild (cells := [int 0, .slice none 0 0, .bool false]) ?_
    refine sgo ?_
    refine ssta (vs := [int 0, .slice none 0 0, .bool false]) hS 0 fun w3 hS => ?_
    refine sgo ?_
    refine fp_ct (.inl rfl) rfl rfl rfl (hS.own 0 rfl) ?_
    exact ⟨none, 0, rfl, hS.tail.nilRow 1⟩
  | true =>
    rw [if_neg (by simp)]
    refine sgo ?_
    refine wlpure (nTop_ok s q c hll _ (his.frm hS.frm)) fun w3 hf3 => ?_
    replace hS := hS.grow hf3
    refine sgo ?_
    by_cases ht : topR s = nTextarea
    · rw [if_pos ht]
      refine wcyes ?_ (ht := decide_eq_true ht)
      refine sgo ?_
      refine wlbuild (cells := [int 0, .slice none 0 0, .bool false]) ?_
      refine sgo ?_
      refine ssta (vs := [int 0, .slice none 0 0, .bool false]) hS 0 fun w3 hS => ?_
      refine sgo ?_
      refine fp_ct (.inl rfl) rfl rfl rfl (hS.own 0 rfl) ?_
      exact ⟨none, 0, rfl, hS.tail.nilRow 1⟩
    · rw [if_neg ht]
      refine wcno ?_ (ht := decide_eq_false ht)
      refine sgo ?_
      refine wlcallgp (vals := [str (topR s)]) (fun _ => nGroup_ok (topR s) _) fun w4 hf4 => ?_
      replace hS := hS.grow hf4
      refine sgo ?_
      refine wlcallgp (vals := [str (topR s)]) (fun _ => nList_ok (topR s) _) fun w5 hf5 => ?_
      replace hS := hS.grow hf5
      refine sgo ?_
      cases hb : (bl && (decide (topR s = nColgroup) || decide (topR s = nTable) || isGroup (topR s) || decide (topR s = nTr) || isLst (topR s) || decide (topR s = nDl))) with
      | true =>
        rw [if_pos rfl]
        refine wcyes ?_ (ht := by simp only [pkb_and, pkb_or]; exact hb)
        refine sgo ?_
        refine wlbuild (cells := [int 0, .slice none 0 0, .bool true]) ?_
        refine sgo ?_
        refine ssta (vs := [int 0, .slice none 0 0, .bool true]) hS 0 fun w3 hS => ?_
        refine sgo ?_
        refine fp_ct (.inl rfl) rfl rfl rfl (hS.own 0 rfl) ?_
        exact ⟨none, 0, rfl, hS.tail.nilRow 1⟩
      | false =>
        rw [if_neg (by simp)]
        refine wcno ?_ (ht := by simp only [pkb_and, pkb_or]; exact hb)
        refine sgo ?_
        refine wlbuild (cells := [.slice q s.length c, .slice none 0 0]) ?_
        refine sgo ?_
        refine sbox (v := .agg ⟨[.slice q s.length c, .slice none 0 0]⟩) hS fun b w6 hS => ?_
        replace hS : Sep w0 w6 (pOwn b [.slice q s.length c, .slice none 0 0] :: pOwn b4 [int 0, .slice none 0 0, .bool false] :: cs) := hS
        refine sgo ?_
        refine wlcall (nInner_ok b q c s none 0 hcc hll w0 _ _ his ((hS.nilRow 1).front 1 rfl)) ?_
        repeat clear hS
        rintro _ w7 ⟨p, d, hS⟩
        refine sgo ?_
        refine wlcall (nPlan_ok s (innerS s) (innerP (topR (innerS s))) b q p c d hal hll (by omega) _ _ w0 hS) ?_
        repeat clear hS
        rintro _ w8 ⟨q7, c7, rfl, hS⟩
        refine sgo ?_
        refine ssta (vs := [int (s.length - (innerS s).length : Nat), .slice q7 (innerP (topR (innerS s))).length c7, .bool false]) hS 1 fun w6 hS => ?_
        refine sgo ?_
        refine fp_ct (.inl rfl) rfl rfl rfl (hS.own 1 rfl) ?_
        exact ⟨q7, c7, rfl, hS.sel 2 [0]⟩

def endIs (name : Nm) : Nm → Bool := if isHead name then isHead else isNm name
def endStops (name : Nm) : Nm → Bool := if isHead name then isWall else if name = nTable then noNm else if inSet 14 name then isNm nTable else isWall
def endR (s : List Nm) (name : Nm) : Nat × Nat :=
  if rightR s = false then (0, 161) else match tpm (endIs name) (endStops name) s with
    | none => (0, 0)
    | some i => (s.length - i, 0)
set_option maxHeartbeats 8000000 in
theorem nEnd_ok (s : List Nm) (q : Option Addr) (c : Nat) (name : Nm) (hcc : s.length ≤ c) (hll : s.length ≤ 4194304) (w : World) (hA : Asc w) (his : Im [] w q (strs s)) :
    PureC Tryd.prog 32 #[.slice q s.length c, str name] w (.tuple #[int (endR s name).1, int (endR s name).2]) := by
  have hF : Frm w w := Frm.refl w
  refine enter (l := [.slice q s.length c, str name]) Tryd.func32 rfl Tryd.ntmps32 (by kernel_rfl) rfl ?_
  refine sgo ?_
  refine wlpure (nRight_ok s q c hcc hll _ hA his) fun w2 hF => ?_
  unfold endR
  cases hr : rightR s with
  | false =>
    rw [if_pos rfl]
    refine sgo ?_
    (first | refine fp1 (.inl rfl) rfl rfl ?_ | refine fp2 (.inl rfl) rfl rfl rfl ?_ | refine fp3 (.inl rfl) rfl rfl rfl rfl ?_ | refine fp0 (.inr rfl) rfl ?_ | refine fp0 (.inl rfl) rfl ?_ | refine fp1 (.inr rfl) rfl rfl ?_); refine ⟨?_, by (first | exact Frm.refl _ | assumption | exact Go.Sv.Sep.frm (by assumption) | (refine Frm.trans ?_ (by assumption); first | exact Frm.refl _ | assumption))⟩; (try simp only [realB, rv_true, Nat.reduceBEq, cond_true, cond_false, entG, real_lif, updGL])
    rfl
  | true =>
    rw [if_neg (by simp)]
    refine sgo ?_
    refine wlcall (named_ok name w2 w2 [] (Sep.start w2)) ?_
    rintro v3 w3 ⟨hF3, hv3⟩
    replace hF := hF.trans hF3
    refine sgo ?_
    refine wlpure (nHead_ok name _ (hA.frm hF)) fun w4 hF4 => ?_
    replace hF := hF.trans hF4
    replace hv3 := hv3.frm hF4
    refine sgo ?_
    refine wcutj (X := Value × Value) (fun x => [(0, .slice q s.length c), (1, str name), (6, x.1), (7, x.2)]) (fun x wr => Frm w wr ∧ Fv Tryd.prog wr x.1 (endIs name) ∧ Fv Tryd.prog wr x.2 (endStops name)) ?_ ?_
    · unfold endIs endStops
      cases hh : isHead name with
      | true =>
        rw [if_pos rfl, if_pos rfl]
        refine sgo ?_
        exact ⟨(.func (.func 54) #[] #[], .func (.func 53) #[] #[]), ⟨rfl, rfl, rfl, rfl, trivial⟩, hF, fvHead _ (hA.frm hF), fvWall _⟩
      | false =>
        rw [if_neg (by simp), if_neg (by simp)]
        refine sgo ?_
        by_cases ht : name = nTable
        · rw [if_pos ht]
          refine wcyes ?_ (ht := decide_eq_true ht)
          refine sgo ?_
          exact ⟨(v3, .func (.func 55) #[] #[]), ⟨rfl, rfl, rfl, rfl, trivial⟩, hF, hv3, fvNever _⟩
        · rw [if_neg ht]
          refine wcno ?_ (ht := decide_eq_false ht)
          refine sgo ?_
          refine wlpure (inK_ok 14 (by decide) name _ (hA.frm hF)) fun w5 hF5 => ?_
          replace hF := hF.trans hF5
          replace hv3 := hv3.frm hF5
          cases h14 : inSet 14 name with
          | true =>
            rw [if_pos rfl]
            refine sgo ?_
            refine wlcall (named_ok nTable w5 w5 [] (Sep.start w5)) ?_
            rintro v6 w6 ⟨hF6, hv6⟩
            replace hF := hF.trans hF6
            replace hv3 := hv3.frm hF6
            refine sgo ?_
            exact ⟨(v3, v6), ⟨rfl, rfl, rfl, rfl, trivial⟩, hF, hv3, hv6⟩
          | false =>
            rw [if_neg (by simp)]
            refine sgo ?_
            exact ⟨(v3, .func (.func 53) #[] #[]), ⟨rfl, rfl, rfl, rfl, trivial⟩, hF, hv3, fvWall _⟩
    · clear hF hF3 hv3
      rintro ⟨v6, v7⟩ w4 ρ ⟨hF, hv6, hv7⟩
      dsimp only at hF hv6 hv7 ⊢
      refine sgo ?_
      refine wlcall (topmost_ok s q c hll v6 v7 (endIs name) (endStops name) _ (his.frm hF) hv6 hv7) ?_
      rintro _ w5 ⟨rfl, hF5⟩
      replace hF := hF.trans hF5
      cases ho : tpm (endIs name) (endStops name) s with
      | none =>
        unfold placeV
        refine sgo ?_
        (first | refine fp1 (.inl rfl) rfl rfl ?_ | refine fp2 (.inl rfl) rfl rfl rfl ?_ | refine fp3 (.inl rfl) rfl rfl rfl rfl ?_ | refine fp0 (.inr rfl) rfl ?_ | refine fp0 (.inl rfl) rfl ?_ | refine fp1 (.inr rfl) rfl rfl ?_); refine ⟨?_, by (first | exact Frm.refl _ | assumption | exact Go.Sv.Sep.frm (by assumption) | (refine Frm.trans ?_ (by assumption); first | exact Frm.refl _ | assumption))⟩; (try simp only [realB, rv_true, Nat.reduceBEq, cond_true, cond_false, entG, real_lif, updGL])
        rfl
      | some i =>
        have hi := cut_len ho
        unfold placeV
        dsimp only
        refine sgo ?_
        refine wcno ?_ (ht := decide_eq_false (by omega))
        refine sgo ?_
        (first | refine fp1 (.inl rfl) rfl rfl ?_ | refine fp2 (.inl rfl) rfl rfl rfl ?_ | refine fp3 (.inl rfl) rfl rfl rfl rfl ?_ | refine fp0 (.inr rfl) rfl ?_ | refine fp0 (.inl rfl) rfl ?_ | refine fp1 (.inr rfl) rfl rfl ?_); refine ⟨?_, by (first | exact Frm.refl _ | assumption | exact Go.Sv.Sep.frm (by assumption) | (refine Frm.trans ?_ (by assumption); first | exact Frm.refl _ | assumption))⟩; (try simp only [realB, rv_true, Nat.reduceBEq, cond_true, cond_false, entG, real_lif, updGL])
        congr 4
        omega
end Go.Proofs.YtmnnffenijjpcaaDoor

/-
  Package sieveref16: is, topmost, above, unblocked.
-/
set_option linter.unusedSimpArgs false
set_option linter.unusedVariables false
set_option linter.unnecessarySimpa false
namespace Go.Proofs.YtmnnffenijjpcaaDoor
open Go Go.Sv Go.RowKit

def isR (n some_ : Nm) : Bool := decide (n ∈ fieldsR some_)
/-- the topmost of them all -/
def topN (is : Nm → Bool) (s : List Nm) : Option Nat := tpm is noNm s
def abvR : Option Nat → Option Nat → Option Nat
  | some i, some j => if j < i then some i else none
  | x, _ => x
end Go.Proofs.YtmnnffenijjpcaaDoor

/-
  Slices written out, of values of one cell each.
-/
set_option linter.unusedSimpArgs false
set_option linter.unusedVariables false
set_option linter.unnecessarySimpa false
namespace Go.Sv
open Go Go.RowKit
section
variable {P : Program} {n : Nat} {ds : Ctx} {ops : Array Oper} {Q : Exit → Ctx → Env → World → Prop} {rest : List Oper} {σ : GE} {w : World} {d : Nat} {ty t t' e : TypeId} {pos : String} {af : Array Edge} {x : Operand} {zv : Value} {bytes : Nat}
def enumN (vs : List Value) (j : Nat) : List (Nat × Value) := (vs.zipIdx j).map fun p => (p.2, p.1)
end
end Go.Sv

/-
  Slices that can be read as pieces; slices that are new.
-/
set_option linter.unusedSimpArgs false
set_option linter.unusedVariables false
set_option linter.unnecessarySimpa false
namespace Go.Sv
open Go Go.RowKit
/-- memory that can be read, as a piece -/
def pVw (q : Option Addr) (l : List Value) : Plot where
  foot := if l = [] then [] else rb q
  ok w := Im [] w q l
  view := (q, l)
  loc w w' h hb := by
    by_cases hl : l = []
    · exact .inl hl
    · rw [if_neg hl] at hb
      rcases h with h | ⟨a, rfl, h1, h2, h3⟩
      · exact .inl h
      · have e := hb a.block (by simp [rb])
        have h2' : a.block < w'.heap.size := by
          rcases Nat.lt_or_ge a.block w'.heap.size with h | h
          · exact h
          · rw [Array.getElem?_eq_none h] at e
            have := (Array.getElem?_eq_getElem h2)
            rw [this] at e; cases e
        exact .inr ⟨_, rfl, h1.mono e, h2', h3⟩
  lt w h x hx := by
    by_cases hl : l = []
    · rw [if_pos hl] at hx; cases hx
    · rw [if_neg hl] at hx
      rcases h with h | ⟨a, rfl, h1, h2, h3⟩
      · exact absurd h hl
      · have : x = a.block := by simpa [rb] using hx
        rw [this]; exact h2
  sg _ h := h.sg
section
variable {w0 w : World} {cs : List Plot} {q : Option Addr} {l : List Value}
theorem Sep.vw (h : Sep w0 w cs) (i : Nat) (hi : cs[i]? = some (pVw q l)) : Im [] w q l := h.at (c := pVw q l) i hi
theorem pVw_foot (q : Option Addr) (l : List Value) : ∀ x ∈ (pVw q l).foot, x ∈ rb q := by
  intro x hx
  unfold pVw at hx
  dsimp only at hx
  split at hx
  · cases hx
  · exact hx
/-- a row of one's own, only to be read -/
theorem Sep.rowVw {s n c : Nat} (h : Sep w0 w cs) (i : Nat) (hi : cs[i]? = some (pRow s q n c l)) : Sep w0 w (cs.set i (pVw q l)) :=
  h.turn i hi (fun hr => Row.im hr (by simp)) (pVw_foot q l)
/-- the front of what can be read -/
theorem Sep.cutVw (h : Sep w0 w cs) (i : Nat) (hi : cs[i]? = some (pVw q l)) (k : Nat) : Sep w0 w (cs.set i (pVw q (l.take k))) := by
  refine h.turn i hi (fun hr => Im.take hr k) (fun x hx => ?_)
  have hx' := pVw_foot _ _ x hx
  by_cases hl : l = []
  · exfalso
    subst hl
    unfold pVw at hx
    simp at hx
  · show x ∈ (if l = [] then [] else rb q)
    rw [if_neg hl]; exact hx'
theorem Sep.nilVw (h : Sep w0 w cs) (q : Option Addr) : Sep w0 w (pVw q [] :: cs) := h.push (Frm.refl w) (.inl rfl) (by simp [pVw])
theorem Sep.toNil (h : Sep w0 w cs) (i : Nat) (hi : cs[i]? = some (pVw q l)) (p : Option Addr) : Sep w0 w (cs.set i (pVw p [])) := h.turn i hi (fun _ => .inl rfl) (by simp [pVw])
end
/-- a slice that lies above a place -/
def Nb (B : Nat) (q : Option Addr) : Prop := ∀ a, q = some a → B ≤ a.block
theorem Nb.none (B : Nat) : Nb B none := fun _ h => nomatch h
theorem Nb.mono {B B' : Nat} {q : Option Addr} (h : Nb B' q) (hB : B ≤ B') : Nb B q := fun a ha => Nat.le_trans hB (h a ha)
end Go.Sv

/-
  Package sieveref16: unblocked, inner.
-/
set_option linter.unusedSimpArgs false
set_option linter.unusedVariables false
set_option linter.unnecessarySimpa false
namespace Go.Proofs.YtmnnffenijjpcaaDoor
open Go Go.Sv Go.RowKit

/-! ## the names in texts -/
def cCells : Nm := [116, 100, 32, 116, 104, 32, 99, 97, 112, 116, 105, 111, 110]
def cWalls : Nm := cCells ++ [32, 116, 97, 98, 108, 101]
def cGroups : Nm := [116, 104, 101, 97, 100, 32, 116, 98, 111, 100, 121, 32, 116, 102, 111, 111, 116]
def cLists : Nm := [117, 108, 32, 111, 108, 32, 109, 101, 110, 117]
def cHeads : Nm := [104, 49, 32, 104, 50, 32, 104, 51, 32, 104, 52, 32, 104, 53, 32, 104, 54]
def unbR (s : List Nm) : List Nm := cutW s (tpm (isNm nP) isWall s)
/-! ## inner -/
def riK : Nat → List Nm → List Nm
  | 0, s => s
  | k + 1, s => if topR s = nColgroup then riK k s.dropLast else s
def riS (s : List Nm) : List Nm := riK s.length s
/-- what inner and place give: what is left, and what is put in -/
def AskV (B : Nat) (q : Option Addr) (c : Nat) (w : World) (x : List Nm × List Nm) (v : Value) (w' : World) : Prop :=
  ∃ q' c', v = .tuple #[.slice q x.1.length c, .slice q' x.2.length c'] ∧ Frm w w' ∧ Im [] w' q' (strs x.2) ∧ Nb B q'



















































































































end Go.Proofs.YtmnnffenijjpcaaDoor

/-
  Package sieveref16: place.
-/
set_option linter.unusedSimpArgs false
set_option linter.unusedVariables false
set_option linter.unnecessarySimpa false
namespace Go.Proofs.YtmnnffenijjpcaaDoor
open Go Go.Sv Go.RowKit

def placeA (is : Nm → Bool) (s table group : List Nm) : List Nm × List Nm :=
  match topN is s with
  | none => (riS (unbR s), innerP (topR (riS (unbR s))) ++ [nTable] ++ table)
  | some i => (s.take (i + 1), if s.getD i [] = nTable then table else if isGroup (s.getD i []) then group else [])
end Go.Proofs.YtmnnffenijjpcaaDoor

/-
  Package sieveref04: In, of the sets 6 and 15 (and 0).
-/
set_option linter.unusedSimpArgs false
set_option linter.unusedVariables false
set_option linter.unnecessarySimpa false
namespace Go.Proofs.YtmnnffenijjpcaaDoor
open Go Go.Sv Go.RowKit

/-- a set's text -/
def TextIs (k : Nat) (v : Value) : Prop := ∃ T : Nm, v = str T ∧ T.length ≤ 1048576 ∧ fieldsR T = Lib.fields (setT k)








































































end Go.Proofs.YtmnnffenijjpcaaDoor

/-
  Package sieveref16: asks.
-/
set_option linter.unusedSimpArgs false
set_option linter.unusedVariables false
set_option linter.unnecessarySimpa false
namespace Go.Proofs.YtmnnffenijjpcaaDoor
open Go Go.Sv Go.RowKit

def cParts : Nm := [99, 97, 112, 116, 105, 111, 110, 32, 99, 111, 108, 103, 114, 111, 117, 112, 32, 116, 104, 101, 97, 100, 32, 116, 98, 111, 100, 121, 32, 116, 102, 111, 111, 116]
def cCol : Nm := [116, 97, 98, 108, 101, 32, 99, 111, 108, 103, 114, 111, 117, 112]
def cTr : Nm := [116, 97, 98, 108, 101, 32] ++ cGroups
def cTd : Nm := cTr ++ [32, 116, 114]
def askE2 (name : Nm) (s : List Nm) : List Nm × List Nm :=
  if name = nLi ∨ name = nDt ∨ name = nDd then
    match tpm (if name = nLi then isLst else isNm nDl) isWall s with
    | some i => (s.take (i + 1), [])
    | none => (riS s, innerP (topR (riS s)) ++ [if name = nLi then nUl else nDl])
  else if isR name cParts = true then placeA (fun n => isR n nTable) s [] []
  else if name = nCol then placeA (fun n => isR n cCol) s [nColgroup] []
  else if name = nTr then placeA (fun n => isR n cTr) s [nTbody] []
  else if name = nTd ∨ name = nTh then placeA (fun n => isR n cTd) s [nTbody, nTr] [nTr]
  else (riS s, innerP (topR (riS s)))
def refAskR (s : List Nm) (name : Nm) : List Nm × List Nm := askE2 name (askS s name)
end Go.Proofs.YtmnnffenijjpcaaDoor

/-
  Package sieveref16 and package nest ask the same of a right stack.
-/
set_option linter.unusedSimpArgs false
set_option linter.unusedVariables false
set_option linter.unnecessarySimpa false
namespace Go.Proofs.YtmnnffenijjpcaaDoor
open Go Go.Sv Go.RowKit

end Go.Proofs.YtmnnffenijjpcaaDoor

/-
  Package sieveref16: Open, Text, Allowed.
-/
set_option linter.unusedSimpArgs false
set_option linter.unusedVariables false
set_option linter.unnecessarySimpa false
namespace Go.Proofs.YtmnnffenijjpcaaDoor
open Go Go.Sv Go.RowKit

def PlanF (p : PlanR) (w : World) (v : Value) (w' : World) : Prop :=
  ∃ q' c', v = .agg ⟨[int p.ends, .slice q' p.put.length c', .bool p.drop]⟩ ∧ Frm w w' ∧ Im [] w' q' (strs p.put) ∧ Nb w.heap.size q'
/-- strings lie in no block that holds none -/
theorem Im.off {w : World} {b : Nat} {vs : List Value} {q : Option Addr} {l : List Nm} (h : Im [] w q (strs l)) (ho : Own w b vs) (hv : ∀ v ∈ vs, ∀ x, v ≠ str x) : Im [b] w q (strs l) := by
  rcases h with h | ⟨a, rfl, h1, h2, _⟩
  · exact .inl h
  by_cases hb : a.block = b
  · cases l with
    | nil => exact .inl rfl
    | cons x l =>
      exfalso
      have h0 := h1 0 (by simp [strs])
      obtain ⟨ty, ho⟩ := ho
      subst hb
      have ea : a.add 0 = a := by unfold Addr.add; cases a; split <;> simp_all
      rw [ea] at h0
      unfold World.cell? at h0
      rw [ho] at h0
      replace h0 : (if a.spot.isSome = true then none else vs.toArray[a.off]?) = some (str x) := h0
      split at h0
      · cases h0
      · rw [List.getElem?_toArray] at h0
        exact hv _ (List.mem_of_getElem? h0) x rfl
  · exact .inr ⟨a, rfl, h1, h2, by simpa using hb⟩








































end Go.Proofs.YtmnnffenijjpcaaDoor

/-
  Package sieveref16: Text.
-/
set_option linter.unusedSimpArgs false
set_option linter.unusedVariables false
set_option linter.unnecessarySimpa false
namespace Go.Proofs.YtmnnffenijjpcaaDoor
open Go Go.Sv Go.RowKit

/-- what the reference says of a text -/
def refTextR (s : List Nm) (blank : Bool) : PlanR :=
  if topR s = nTextarea then errR 0
  else if blank && (decide (0 < (innerP (topR (innerS s))).length) || decide ((innerS s).length < s.length)) then ⟨0, [], true, 0⟩
  else planR s (innerR s)
theorem innerP_pos (n : Nm) : decide (0 < (innerP n).length) = (decide (n = nTable) || isGroup n || decide (n = nTr) || isLst n || decide (n = nDl)) := by
  unfold innerP
  by_cases h1 : n = nTable
  · simp [h1]
  rw [if_neg h1]
  cases h2 : isGroup n with
  | true => simp
  | false =>
    rw [if_neg Bool.false_ne_true]
    by_cases h3 : n = nTr
    · simp [h3]
    rw [if_neg h3]
    cases h4 : isLst n with
    | true => simp
    | false =>
      rw [if_neg Bool.false_ne_true]
      by_cases h5 : n = nDl
      · simp [h5]
      · simp [h1, h3, h5]
end Go.Proofs.YtmnnffenijjpcaaDoor

/-
  Package balance, as a law of lists: what a token does; its events are good, each for itself.
-/
set_option linter.unusedSimpArgs false
set_option linter.unusedVariables false
set_option linter.unnecessarySimpa false
namespace Go.Proofs.YtmnnffenijjpcaaDoor
open Go Go.Sv Go.RowKit

/-- a finding -/
structure Fi where
  a : Int
  b : Int
  d : Int
  why : Int
  name : List UInt8
  deriving DecidableEq
def Fi.cells (f : Fi) : List Value := [int f.a, int f.b, int f.d, int f.why, str f.name]
theorem Fi.len (f : Fi) : f.cells.length = 5 := rfl
/-- what is open, the ghosts, is the last event one that opens pre or textarea -/
structure BaS where
  op : List Nm
  gh : List Nm
  fr : Bool
def isFr (n : Nm) : Bool := decide (n = nPre) || decide (n = nTextarea)
def opE (n : Nm) (es : List At) : Ev := ⟨1, n, [], es⟩
def voE (n : Nm) (es : List At) : Ev := ⟨3, n, [], es⟩
def txE (x : Nm) : Ev := ⟨0, [], x, []⟩
def fiT (t : Tok) (y : Int) (n : Nm) : Fi := ⟨t.a, t.b, t.d, y, n⟩
def pushB (s : BaS) (n : Nm) : BaS := ⟨s.op ++ [n], s.gh, isFr n⟩
def popB (s : BaS) (k : Nat) : BaS := if k = 0 then s else ⟨s.op.take (s.op.length - k), [], false⟩
/-- the names that are closed, from the top -/
def offN (s : List Nm) (k : Nat) : List Nm := (s.drop (s.length - k)).reverse
def pushesB (s : BaS) (l : List Nm) : BaS := l.foldl pushB s
def followB (s : BaS) (p : PlanR) : BaS := pushesB (popB s p.ends) p.put
def followE (s : BaS) (p : PlanR) : List Ev := (offN s.op p.ends).map closeE ++ p.put.map fun n => opE n []
def followF (t : Tok) (p : PlanR) : List Fi := p.put.map (fiT t 9)
structure OutB where
  s : BaS
  es : List Ev
  fs : List Fi
def startB (depth : Nat) (s : BaS) (t : Tok) : OutB :=
  if isAllow t.name = false then ⟨s, [], [fiT t 0 t.name]⟩
  else if depth < s.op.length - (planR s.op (askR s.op t.name)).ends + (planR s.op (askR s.op t.name)).put.length + 1 then
    ⟨if isVoid t.name then s else ⟨s.op, s.gh ++ [t.name], s.fr⟩, [], [fiT t 8 t.name]⟩
  else if isVoid t.name then
    ⟨⟨(followB s (planR s.op (askR s.op t.name))).op, (followB s (planR s.op (askR s.op t.name))).gh, false⟩, followE s (planR s.op (askR s.op t.name)) ++ [voE t.name t.attrs], followF t (planR s.op (askR s.op t.name))⟩
  else ⟨pushB (followB s (planR s.op (askR s.op t.name))) t.name, followE s (planR s.op (askR s.op t.name)) ++ [opE t.name t.attrs], followF t (planR s.op (askR s.op t.name))⟩
/-- a text without the line ends at its head -/
def lfR (x : List UInt8) : List UInt8 := x.dropWhile fun c => decide (c = 10)
def headB (s : BaS) (t : Tok) : List UInt8 := if s.fr then lfR t.text else t.text
def isBlank (x : List UInt8) : Bool := x.all blkR
def textB (depth : Nat) (s : BaS) (t : Tok) : OutB :=
  if headB s t = [] then ⟨s, [], []⟩
  else if (nTextR s.op (isBlank (headB s t))).drop then ⟨s, [], []⟩
  else if depth < s.op.length - (nTextR s.op (isBlank (headB s t))).ends + (nTextR s.op (isBlank (headB s t))).put.length then ⟨s, [], [fiT t 8 []]⟩
  else ⟨⟨(followB s (nTextR s.op (isBlank (headB s t)))).op, (followB s (nTextR s.op (isBlank (headB s t)))).gh, false⟩, followE s (nTextR s.op (isBlank (headB s t))) ++ [txE (headB s t)], followF t (nTextR s.op (isBlank (headB s t)))⟩
/-- the last place of a name -/
def lastK (n : Nm) (l : List Nm) : Nat → Option Nat
  | 0 => none
  | k + 1 => if l.getD k [] = n then some k else lastK n l k
def endB (s : BaS) (t : Tok) : OutB :=
  match lastK t.name s.gh s.gh.length with
  | some i => ⟨⟨s.op, s.gh.take i, s.fr⟩, [], []⟩
  | none => if (endR s.op t.name).1 = 0 then ⟨s, [], [fiT t 7 t.name]⟩ else ⟨popB s (endR s.op t.name).1, (offN s.op (endR s.op t.name).1).map closeE, []⟩
def takeB (depth : Nat) (s : BaS) (t : Tok) : OutB :=
  if t.kind = 1 then startB depth s t else if t.kind = 0 then textB depth s t else if t.kind = 2 then endB s t else ⟨s, [], []⟩
def runB (depth : Nat) : BaS → List Tok → OutB
  | s, [] => ⟨s, [], []⟩
  | s, t :: l => ⟨(runB depth (takeB depth s t).s l).s, (takeB depth s t).es ++ (runB depth (takeB depth s t).s l).es, (takeB depth s t).fs ++ (runB depth (takeB depth s t).s l).fs⟩
def ba0 : BaS := ⟨[], [], false⟩
def allE (depth : Nat) (l : List Tok) : List Ev := (runB depth ba0 l).es ++ (offN (runB depth ba0 l).s.op (runB depth ba0 l).s.op.length).map closeE
def allF (depth : Nat) (l : List Tok) : List Fi := (runB depth ba0 l).fs
def allC (depth : Int) (l : List Tok) : Int := if depth < 1 ∨ 512 < depth then 1 else if l.all mayR then 0 else 70

theorem runB_app (depth : Nat) (l l' : List Tok) : ∀ s, runB depth s (l ++ l') = ⟨(runB depth (runB depth s l).s l').s, (runB depth s l).es ++ (runB depth (runB depth s l).s l').es, (runB depth s l).fs ++ (runB depth (runB depth s l).s l').fs⟩ := by
  induction l with
  | nil => intro s; rfl
  | cons t l ih => intro s; simp only [List.cons_append, runB, ih, List.append_assoc]

/-! ## what is good: an event, where it stands -/
/-- what is open, and whether the last event opens pre or textarea -/
abbrev Pos := List Nm × Bool
def nextE (x : Pos) (e : Ev) : Pos :=
  if e.kind = 1 then (x.1 ++ [e.name], isFr e.name) else if e.kind = 2 then (x.1.dropLast, false) else (x.1, false)
/-- attributes that may be, and are small -/
def SmA (es : List At) : Prop := attrsR es = true ∧ es.length ≤ 1048576 ∧ ∀ x ∈ es, x.small
inductive GoodE (depth : Nat) : Pos → Ev → Prop
  | opens {o f n es} : isAllow n = true → isVoid n = false → Still o n → o.length + 1 ≤ depth → SmA es → GoodE depth (o, f) (opE n es)
  | voids {o f n es} : isAllow n = true → isVoid n = true → Still o n → o.length + 1 ≤ depth → SmA es → GoodE depth (o, f) (voE n es)
  | closes {o f n} : rightR (o ++ [n]) = true → GoodE depth (o ++ [n], f) (closeE n)
  | texts {o f x} : x ≠ [] → validR x = true ∧ x.length ≤ 1048576 → (f = true → x.head? ≠ some 10) → (nTextR o (isBlank x)).drop = false → (nTextR o (isBlank x)).ends = 0 → (nTextR o (isBlank x)).put = [] → GoodE depth (o, f) (txE x)
inductive GoodL (depth : Nat) : Pos → List Ev → Pos → Prop
  | nil {x} : GoodL depth x [] x
  | cons {x e l y} : GoodE depth x e → GoodL depth (nextE x e) l y → GoodL depth x (e :: l) y
theorem GoodL.app {depth : Nat} {x y z : Pos} {l l' : List Ev} (h : GoodL depth x l y) (h' : GoodL depth y l' z) : GoodL depth x (l ++ l') z := by
  induction h with
  | nil => exact h'
  | cons h1 _ ih => exact .cons h1 (ih h')
theorem GoodL.one {depth : Nat} {x : Pos} {e : Ev} (h : GoodE depth x e) : GoodL depth x [e] (nextE x e) := .cons h .nil
/-- what is open stays right, and within the cap -/
def PosR (depth : Nat) (x : Pos) : Prop := rightR x.1 = true ∧ x.1.length ≤ depth
theorem next_right {depth : Nat} {x : Pos} {e : Ev} (h : GoodE depth x e) (hx : PosR depth x) : PosR depth (nextE x e) := by
  cases h with
  | opens h1 h2 h3 h4 _ =>
    refine ⟨?_, by simpa [nextE, opE] using h4⟩
    show rightR (_ ++ [_]) = true
    exact right_iff.2 ⟨hx.1, h1, h2, h3⟩
  | voids _ _ _ _ _ => exact hx
  | closes h1 =>
    refine ⟨?_, ?_⟩
    · show rightR (List.dropLast (_ ++ [_])) = true
      rw [List.dropLast_concat]; exact (right_iff.1 h1).1
    · have := hx.2
      show (List.dropLast (_ ++ [_])).length ≤ depth
      rw [List.dropLast_concat]
      rw [List.length_append] at this
      omega
  | texts _ _ _ _ _ _ => exact hx
theorem GoodL.right {depth : Nat} {x y : Pos} {l : List Ev} (h : GoodL depth x l y) (hx : PosR depth x) : PosR depth y := by
  induction h with
  | nil => exact hx
  | cons h1 _ ih => exact ih (next_right h1 hx)
/-! ## closing -/
theorem offN_zero (s : List Nm) : offN s 0 = [] := by simp [offN]
theorem offN_snoc (s : List Nm) (x : Nm) (k : Nat) (hk : k ≤ s.length) : offN (s ++ [x]) (k + 1) = x :: offN s k := by
  unfold offN
  rw [List.length_append, List.length_singleton, show s.length + 1 - (k + 1) = s.length - k by omega, List.drop_append_of_le_length (by omega)]
  simp
theorem popB_snoc (s : List Nm) (x : Nm) (g : List Nm) (f : Bool) (k : Nat) (hk : k ≤ s.length) : popB ⟨s ++ [x], g, f⟩ (k + 1) = popB ⟨s, [], false⟩ k := by
  unfold popB
  rw [if_neg (by omega)]
  dsimp only
  rw [List.length_append, List.length_singleton, show s.length + 1 - (k + 1) = s.length - k by omega, List.take_append_of_le_length (by omega)]
  split
  · rename_i h; subst h; simp
  · rfl
theorem close_good {depth : Nat} : ∀ (k : Nat) (o g : List Nm) (f : Bool), k ≤ o.length → rightR o = true → GoodL depth (o, f) ((offN o k).map closeE) ((popB ⟨o, g, f⟩ k).op, (popB ⟨o, g, f⟩ k).fr)
  | 0, o, g, f, _, _ => by rw [offN_zero]; exact .nil
  | k + 1, o, g, f, hk, hr => by
    rcases snoc_cases o with rfl | ⟨t, x, rfl⟩
    · simp at hk
    · have hk' : k ≤ t.length := by simpa using hk
      rw [offN_snoc _ _ _ hk', popB_snoc _ _ _ _ _ hk']
      refine .cons (.closes hr) ?_
      have e : nextE (t ++ [x], f) (closeE x) = (t, false) := by
        show ((t ++ [x]).dropLast, false) = _
        rw [List.dropLast_concat]
      rw [e]
      exact close_good k t [] false hk' (right_iff.1 hr).1
/-! ## opening -/
theorem pushes_op : ∀ (l : List Nm) (s : BaS), (pushesB s l).op = s.op ++ l ∧ (pushesB s l).gh = s.gh
  | [], s => by simp [pushesB]
  | x :: l, s => by
    have := pushes_op l (pushB s x)
    exact ⟨by show (pushesB (pushB s x) l).op = _; rw [this.1]; simp [pushB], this.2⟩
theorem pushes_good {depth : Nat} : ∀ (l : List Nm) (s : BaS), rightR (s.op ++ l) = true → s.op.length + l.length ≤ depth → GoodL depth (s.op, s.fr) (l.map fun n => opE n []) ((pushesB s l).op, (pushesB s l).fr)
  | [], s, _, _ => .nil
  | x :: l, s, hr, hd => by
    have h1 : rightR (s.op ++ [x] ++ l) = true := by simpa using hr
    have h2 := right_iff.1 (right_pre _ _ h1)
    simp only [List.length_cons] at hd
    refine .cons (.opens h2.2.1 h2.2.2.1 h2.2.2.2 (by omega) ⟨rfl, by simp, by simp⟩) ?_
    exact pushes_good l (pushB s x) (by simpa [pushB] using hr) (by simp [pushB]; omega)
theorem follow_good {depth : Nat} (s : BaS) (p : PlanR) (hr : rightR s.op = true) (hk : p.ends ≤ s.op.length) (h2 : rightR (s.op.take (s.op.length - p.ends) ++ p.put) = true) (hd : s.op.length - p.ends + p.put.length ≤ depth) :
    GoodL depth (s.op, s.fr) (followE s p) ((followB s p).op, (followB s p).fr) ∧ (followB s p).op = s.op.take (s.op.length - p.ends) ++ p.put := by
  have e : (popB s p.ends).op = s.op.take (s.op.length - p.ends) := by
    unfold popB
    split
    · rename_i h; rw [h]; simp
    · rfl
  refine ⟨(close_good p.ends s.op s.gh s.fr hk hr).app ?_, ?_⟩
  · refine pushes_good p.put (popB s p.ends) (by rw [e]; exact h2) ?_
    rw [e, List.length_take]; omega
  · unfold followB
    rw [(pushes_op p.put _).1, e]
/-! ## texts -/
theorem lf_app (x : List UInt8) : ∃ k, lfR x = x.drop k ∧ (∀ i, i < k → x[i]? = some 10) := by
  induction x with
  | nil => exact ⟨0, rfl, by simp⟩
  | cons c x ih =>
    by_cases hc : c = 10
    · obtain ⟨k, h1, h2⟩ := ih
      refine ⟨k + 1, ?_, ?_⟩
      · unfold lfR; rw [List.dropWhile_cons, if_pos (by simpa using hc)]; exact h1
      · intro i hi
        cases i with
        | zero => simp [hc]
        | succ i => simpa using h2 i (by omega)
    · exact ⟨0, by unfold lfR; rw [List.dropWhile_cons, if_neg (by simpa using hc)]; rfl, by simp⟩
theorem lf_head (x : List UInt8) : (lfR x).head? ≠ some 10 := by
  induction x with
  | nil => simp [lfR]
  | cons c x ih =>
    unfold lfR
    rw [List.dropWhile_cons]
    split
    · exact ih
    · rename_i h
      simp only [List.head?_cons]
      intro hh
      exact h (by simpa using hh)
end Go.Proofs.YtmnnffenijjpcaaDoor

/-
  A balancer in memory; slices that can be read as pieces; append behind a slice whose capacity is its length.
-/
set_option linter.unusedSimpArgs false
set_option linter.unusedVariables false
set_option linter.unnecessarySimpa false
namespace Go.Sv
open Go Go.RowKit
section
variable {w0 w : World} {cs : List Plot} {q : Option Addr} {l : List Value}
/-- a record's own row into the many -/
theorem Sep.tell {b : Nat} {vs xs : List Value} {p : Option Addr} {s n c : Nat} {A B C D F : Plot} {rs : List RowD} (h : Sep w0 w (pOwn b vs :: pRow s p n c xs :: A :: B :: C :: D :: pMany rs :: F :: cs)) : Sep w0 w (A :: B :: C :: D :: pMany (rs ++ [⟨s, p, n, c, xs⟩]) :: F :: cs) :=
  (((h.tail.front 5 rfl).front 1 rfl).more).sel 6 [1, 2, 3, 4, 0, 5]
theorem Sep.tell1 {xs : List Value} {p : Option Addr} {s n c : Nat} {A B C D F : Plot} {rs : List RowD} (h : Sep w0 w (pRow s p n c xs :: A :: B :: C :: D :: pMany rs :: F :: cs)) : Sep w0 w (A :: B :: C :: D :: pMany (rs ++ [⟨s, p, n, c, xs⟩]) :: F :: cs) :=
  (((h.front 5 rfl).front 1 rfl).more).sel 6 [1, 2, 3, 4, 0, 5]
end
section
variable {P : Program} {k : Nat} {ds : Ctx} {ops : Array Oper} {Q : Exit → Ctx → Env → World → Prop} {rest : List Oper} {σ : GE} {w0 w : World} {v : Value} {d : Nat} {ty t t' e e' : TypeId} {pos : String} {af : Array Edge} {x y : Operand} {z : Value} {size bytes : Nat} {p q : Option Addr} {xs news : List Value} {n m c c' : Nat} {cs : List Plot}
end
end Go.Sv
namespace Go.Proofs.YtmnnffenijjpcaaDoor
open Go Go.Sv Go.RowKit

/-- a balancer: what it knows, and where that lies -/
structure BaM where
  s : BaS
  qo : Option Addr
  co : Nat
  qg : Option Addr
  cg : Nat
  ms : List EvM
  qt : Option Addr
  ct : Nat
  fs : List Fi
  qf : Option Addr
  cf : Nat
  dp : Nat
  ov : Bool
def BaM.cells (m : BaM) : List Value := [.slice m.qo m.s.op.length m.co, .slice m.qg m.s.gh.length m.cg, .bool m.s.fr, .slice m.qt m.ms.length m.ct, int m.dp, .slice m.qf m.fs.length m.cf, .bool true, .bool m.ov]
def BaM.plots (m : BaM) (b : Nat) (cs : List Plot) : List Plot := pOwn b m.cells :: pVw m.qo (strs m.s.op) :: pVw m.qg (strs m.s.gh) :: pRow 4 m.qt m.ms.length m.ct (m.ms.flatMap EvM.cells) :: pMany (m.ms.map EvM.row) :: pRow 5 m.qf m.fs.length m.cf (m.fs.flatMap Fi.cells) :: cs
/-- what a step makes of it -/
structure BaM.to (m m' : BaM) (s : BaS) (es : List Ev) (fs : List Fi) : Prop where
  s : m'.s = s
  es : evs m'.ms = evs m.ms ++ es
  fs : m'.fs = m.fs ++ fs
  dp : m'.dp = m.dp
  ov : m'.ov = m.ov
  co : m'.s.op.length ≤ m'.co
  cg : m'.s.gh.length ≤ m'.cg
theorem BaM.to.trans {m m' m'' : BaM} {s s' : BaS} {es es' : List Ev} {fs fs' : List Fi} (h : m.to m' s es fs) (h' : m'.to m'' s' es' fs') : m.to m'' s' (es ++ es') (fs ++ fs') :=
  ⟨h'.s, by rw [h'.es, h.es, List.append_assoc], by rw [h'.fs, h.fs, List.append_assoc], by rw [h'.dp, h.dp], by rw [h'.ov, h.ov], h'.co, h'.cg⟩
/-- behind a step -/
def BaP (m : BaM) (b : Nat) (s : BaS) (es : List Ev) (fs : List Fi) (w0 : World) (cs : List Plot) (w : World) : Prop := ∃ m' : BaM, m.to m' s es fs ∧ Sep w0 w (m'.plots b cs)
theorem fi_one (f : Fi) : ∀ u ∈ f.cells, u.oneCell' = true := by simp [Fi.cells, Value.oneCell']
theorem fis_flat (ns : List Fi) (f : Fi) : ns.flatMap Fi.cells ++ f.cells = (ns ++ [f]).flatMap Fi.cells := by simp
end Go.Proofs.YtmnnffenijjpcaaDoor

/-
  Regions that draw their order, by a plan for the first operations; the rest in order.
-/
set_option linter.unusedSimpArgs false
set_option linter.unusedVariables false
set_option linter.unnecessarySimpa false
namespace Go.Sv
open Go Go.RowKit
/-- the first n1 are done, the rest not -/
def heads (n1 size : Nat) : Array Bool := ((List.range size).map fun i => decide (i < n1)).toArray
section
variable {P : Program} {n : Nat} {ds : Ctx} {Q : Exit → Ctx → Env → World → Prop} {S : (Nat → Bool) → Env → World → Prop} {σ : Env} {w : World} {m : Nat}
theorem wpAnyIn_of_seqF {F : Fence} {md : Region.Mode} {ops : Array Oper} {Q' : Exit → Act → World → Prop} : ∀ (l : List Oper) (k : Nat) (listed : Array Bool) (a : Act) (w : World), (∀ j, l[j]? = ops[k + j]?) →
    Region.seqB md ops l.length k listed = true → wpListIn F m P ops Q' l a w → wpAnyIn F m P md ops Q' l.length listed a w
  | [], _, _, _, _, _, hB, h => ⟨by simpa [Region.seqB] using hB, h⟩
  | o :: l, k, listed, a, w, hl, hB, h => by
    have h0 : ops[k]? = some o := by simpa using (hl 0).symm
    simp only [List.length_cons, Region.seqB, Bool.and_eq_true, decide_eq_true_eq] at hB
    refine ⟨fun h1 => (by rw [hB.1] at h1; cases h1), fun i hi => ?_⟩
    rw [hB.1] at hi
    have hik : i = k := by simpa using hi
    subst hik
    have hw : wpOpIn F m P ops Q' i (wpListIn F m P ops Q' l) a w := by unfold wpOpIn; simp only [h0]; exact h
    exact wpOpIn_mono (fun a' w' h' => wpAnyIn_of_seqF l (i + 1) _ a' w' (fun j => by have := hl (j + 1); simpa [Nat.add_assoc, Nat.add_comm 1 j] using this) hB.2 h') hw
theorem wpAnyIn_of_IT {ops : Array Oper} {dd : List Deferred} {Q' : Exit → Act → World → Prop} {n1 : Nat} {l2 : List Oper} {ro : Option Nat} (hs : Region.sinkB .any ops n1 = true) (hc : Region.chainB .any ops n1 = true) (hn : n1 < ops.size) (hf : fwdB ops = true)
    (hin : ops.toList.all (operIn n ro.isSome ops) = true) (hop : ∀ k o, k < n1 → ops[k]? = some o → StepI P ops S k o) (hl2 : ∀ j, l2[j]? = ops[n1 + j]?) (hB2 : Region.seqB .any ops l2.length n1 (heads n1 ops.size) = true)
    (hQ : ∀ L σ w, (∀ k, k < n1 → L k = true) → (∀ k, n1 ≤ k → L k = false) → S L σ w → wpListIn (fen ro) m P ops Q' l2 (act n dd σ) w) :
    ∀ (f : Nat) (listed : Array Bool) (σ : Env) (w : World), HeadInv .any ops n1 listed → (listed.toList.take n1).count false = f → S (fl listed) σ w → wpAnyIn (fen ro) m P .any ops Q' (f + l2.length) listed (act n dd σ) w
  | 0, listed, σ, w, inv, hcnt, hS => by
    have hsz := inv.size
    have hfirst : ∀ i, i < n1 → ∀ h : i < listed.size, listed[i] = true := by
      intro i hi h
      cases hb : listed[i] with
      | true => rfl
      | false =>
        exfalso
        have : false ∈ listed.toList.take n1 := by
          rw [List.mem_iff_getElem]
          exact ⟨i, by simp; omega, by simp [hb]⟩
        have := List.count_pos_iff.2 this
        omega
    have hrest : ∀ i, n1 ≤ i → ∀ h : i < listed.size, listed[i] = false := by
      intro i hi h
      have := inv.tail i hi (by omega)
      simpa [h] using this
    have he : listed = heads n1 ops.size := by
      apply Array.ext
      · simp [heads, hsz]
      · intro i h1 h2
        simp only [heads, List.getElem_toArray, List.getElem_map, List.getElem_range]
        rcases Nat.lt_or_ge i n1 with h | h
        · rw [hfirst i h h1, decide_eq_true h]
        · rw [hrest i h h1, decide_eq_false (by omega)]
    rw [Nat.zero_add]
    refine wpAnyIn_of_seqF l2 n1 listed _ w hl2 (by rw [he]; exact hB2) (hQ (fl listed) σ w (fun k hk => ?_) (fun k hk => ?_) hS)
    · have h1 : k < listed.size := by omega
      simp [fl, h1, hfirst k hk h1]
    · rcases Nat.lt_or_ge k listed.size with h1 | h1
      · simp [fl, h1, hrest k hk h1]
      · simp [fl, Array.getElem?_eq_none h1]
  | f + 1, listed, σ, w, inv, hcnt, hS => by
    have hsz := inv.size
    have hmem : false ∈ listed.toList.take n1 := List.count_pos_iff.1 (by omega)
    obtain ⟨u, hu1, hu2⟩ := List.mem_iff_getElem.1 hmem
    have hun : u < n1 := by simp at hu1; omega
    have hul : u < listed.size := by simp at hu1; omega
    have hu3 : listed[u] = false := by simpa using hu2
    rw [show f + 1 + l2.length = (f + l2.length) + 1 from by omega]
    refine ⟨fun hr => ?_, fun i hi => ?_⟩
    · exfalso
      have := ready_of_fwd hf hsz hr u (by omega)
      simp [fl, hul, hu3] at this
    · have hin1 : i < n1 := by
        rcases Nat.lt_or_ge i n1 with h | h
        · exact h
        · exact absurd hi (tail_waits hs hc hn inv _ u rfl hun (by simp [hul, hu3]) i h)
      obtain ⟨h0, o, ho, hall⟩ := mem_ready.1 hi
      have hio : i < ops.size := (Array.getElem?_eq_some_iff.1 ho).1
      have hlt : i < listed.size := by omega
      have h0' : listed[i] = false := by simpa [hlt] using h0
      have hup : Up ops o i (fl listed) := by
        refine ⟨by simp [fl, hlt, h0'], ?_, ?_⟩
        · intro j hj
          obtain ⟨e, he, hb, rfl⟩ := bindsOn_iff.1 hj
          exact hall e he hb
        · intro j oj hj hb
          cases hL : fl listed j with
          | false => rfl
          | true =>
            obtain ⟨e, he, hb1, hb2⟩ := bindsOn_iff.1 hb
            have h2 := inv.closed j oj hj hL e he hb1
            rw [hb2] at h2
            simp [hlt, h0'] at h2
      have hino : operIn n ro.isSome ops o = true := by
        rw [List.all_eq_true] at hin
        exact hin o (by simpa using Array.mem_of_getElem? ho)
      refine wpOpIn_of_I hino ho (hop i o hin1 ho _ σ w hup hS) fun v w' hw' => ?_
      rw [act_put (operIn_dst hino)]
      refine wpAnyIn_of_IT hs hc hn hf hin hop hl2 hB2 hQ f _ _ _ (inv.set hi hin1) ?_ (by rw [fl_set hlt]; exact hw')
      rw [Array.toList_setIfInBounds, List.take_set, List.count_set]
      · have hb : (listed.toList.take n1)[i]'(by simp; omega) = false := by simpa using h0'
        rw [hb]; simp only [beq_self_eq_true, if_true]; simp; omega
      · simp; omega
theorem wcdrawit [hm : Mix P] {id : Nat} {ops l2 : List Oper} (n1 : Nat) (S : (Nat → Bool) → Env → World → Prop) (h0 : ∀ wd, Frm w wd → S (fun _ => false) σ wd) (hop : ∀ k o, k < n1 → ops[k]? = some o → StepI P ops.toArray S k o)
    (hend : ∀ L σ' w', (∀ k, k < n1 → L k = true) → (∀ k, n1 ≤ k → L k = false) → S L σ' w' → WL P n ds ops.toArray Q l2 σ' w') (hl2 : ops.drop n1 = l2)
    (hB : Region.lexTailB .any ops.toArray n1 = true) (hB2 : Region.seqB .any ops.toArray l2.length n1 (heads n1 ops.toArray.size) = true) (hf : fwdB ops.toArray = true) : WC P n ds (.region id ops.toArray true) Q σ w := by
  obtain ⟨dd, ro⟩ := ds
  unfold WC
  intro hin
  have hin' : ops.all (operIn n ro.isSome ops.toArray) = true := by simpa [codeIn] using hin
  simp only [Region.lexTailB, Bool.and_eq_true, decide_eq_true_eq] at hB
  obtain ⟨⟨⟨⟨hsel, hn⟩, hs⟩, hc⟩, hlex⟩ := hB
  refine wpIn_region_any hm.ok ?_
  have e0 : fl (Array.replicate ops.toArray.size false) = fun _ => false := by funext k; exact getD_replicate_false _ _
  have inv0 : HeadInv .any ops.toArray n1 (Array.replicate ops.toArray.size false) :=
    ⟨by simp, fun j oj _ hl => (by rw [getD_replicate_false] at hl; cases hl), fun t _ h9 => getD_in (by simp only [Array.size_replicate]; exact h9) (getD_replicate_false _ _)⟩
  have hl3 : ∀ j : Nat, l2[j]? = ops.toArray[n1 + j]? := fun j => by subst hl2; simp
  have hnl : n1 < ops.length := by simpa using hn
  have hsum : ops.toArray.size = n1 + l2.length := by subst hl2; simp; omega
  have := wpAnyIn_of_IT (S := S) (n := n) (m := 0) (dd := dd) (l2 := l2) hs hc hn hf (by simpa using hin') (fun k o hk ho => hop k o hk (by simpa using ho)) hl3 hB2
    (fun L σ' w' h1 h2 h3 => by
      have hw := hend L σ' w' h1 h2 h3
      unfold WL at hw
      refine hw ?_
      rw [List.all_eq_true] at hin' ⊢
      intro x hx
      subst hl2
      exact hin' x (List.mem_of_mem_drop hx))
    n1 _ σ { w with drawn := w.drawn + 1 } inv0 (by simp; omega) (by rw [e0]; exact h0 _ (Frm.drawn (Frm.refl w)))
  rw [← hsum] at this
  exact this
variable {X : Type}
/-- a region that draws: a plan for the first n1, the rest in order -/
theorem wcplant [hm : Mix P] {w0 : World} {id : Nat} {ops l1 l2 : List Oper} {x : Oper} {cs b : List Plot} (n1 : Nat) (p : PlanB X) (d0 : PD X) (hS : Sep w0 w (b ++ cs)) (hb : (List.range ops.length).flatMap p.base = b)
    (hF : ∀ (j : Nat) (oj : Oper) (a a' : Nat → PD X), ops[j]? = some oj → a j = a' j → (∀ i, bindsOn oj i = true → a i = a' i) → p.fact j a → p.fact j a')
    (hR : p.Rules P w0 cs σ ops 0 l1)
    (hend : ∀ (a : Nat → PD X) σ' w', (∀ s, (∀ (k : Nat) (o : Oper), l1[k]? = some o → o.dst ≠ some s) → σ' s = σ s) → (∀ (k : Nat) (o : Oper), l1[k]? = some o → (∀ d, o.dst = some d → σ' d = (a k).v) ∧ p.fact k a) →
      Sep w0 w' (((List.range n1).filter fun j => (p.con j).isNone).flatMap (fun j => p.pl j (a j)) ++ cs) → WL P n ds ops.toArray Q (x :: l2) σ' w')
    (hp : Parts n1 ops l1 x l2 := by repeat (first | exact Go.Sv.Parts.zero | apply Go.Sv.Parts.step)) (hB : planB p.con ops = true := by kernel_rfl) (hcon : ((List.range n1).all fun j => match p.con j with | some c => decide (c < n1) | none => true) = true := by kernel_rfl) (hbase : (List.range' n1 (ops.length - n1)).flatMap p.base = [] := by rfl)
    (hBt : Region.lexTailB .any ops.toArray n1 = true := by kernel_rfl) (hB2 : Region.seqB .any ops.toArray (x :: l2).length n1 (heads n1 ops.toArray.size) = true := by kernel_rfl) (hf : fwdB ops.toArray = true := by kernel_rfl) : WC P n ds (.region id ops.toArray true) Q σ w := by
  have hl : ops.take n1 = l1 ∧ ops.drop n1 = x :: l2 := by
    obtain ⟨h1, h2⟩ := hp
    subst h1
    subst h2
    exact ⟨List.take_left, List.drop_left⟩
  have hn1 : n1 < ops.length := by
    simp only [Region.lexTailB, Bool.and_eq_true, decide_eq_true_eq] at hBt
    simpa using hBt.1.1.1.2
  have hget : ∀ k o, k < n1 → (ops[k]? = some o ↔ l1[k]? = some o) := by
    intro k o hk
    rw [← hl.1, List.getElem?_take, if_pos hk]
  have hlen : l1.length = n1 := by rw [← hl.1, List.length_take]; omega
  have hsteps := planb_steps hB hF l1 0 (fun j o h => by
    rw [Nat.zero_add]
    have hj : j < n1 := by rw [← hlen]; exact (List.getElem?_eq_some_iff.1 h).1
    exact (hget j o hj).2 h) hR
  refine wcdrawit n1 (p.S w0 cs σ ops) (fun wd hwd => ⟨fun _ _ => rfl, fun _ => d0, fun _ _ _ h => absurd h Bool.false_ne_true, ?_⟩) (fun k o hk ho => ?_) ?_ hl.2 hBt hB2 hf
  · have e : p.mem ops.length (fun _ => false) (fun _ => d0) = [] := by
      unfold PlanB.mem
      rw [List.filter_eq_nil_iff.2 (by intro j _; simp [PlanB.live])]
      rfl
    have e2 : p.bmem ops.length (fun _ => false) = b := by
      rw [← hb]; unfold PlanB.bmem
      rw [List.filter_eq_self.2 (by intro j _; rfl)]
    rw [e, e2]
    exact hS.grow hwd
  · have := stepsI_get hsteps k o ((hget k o hk).1 ho)
    rwa [Nat.zero_add] at this
  · rintro L σ' w' hL1 hL2 ⟨hσ, a, hA, hS'⟩
    have hk1 : ∀ {k : Nat} {o : Oper}, l1[k]? = some o → k < n1 := fun h => by rw [← hlen]; exact (List.getElem?_eq_some_iff.1 h).1
    refine hend a σ' w' (fun s hs => hσ s fun k o hk hLk => ?_) (fun k o hk => hA k o ((hget k o (hk1 hk)).2 hk) (hL1 k (hk1 hk))) ?_
    · rcases Nat.lt_or_ge k n1 with h | h
      · exact hs k o ((hget k o h).1 hk)
      · rw [hL2 k h] at hLk; cases hLk
    · have e2 : p.bmem ops.length L = [] := by
        unfold PlanB.bmem
        have hr : (List.range ops.length).filter (fun j => !L j) = List.range' n1 (ops.length - n1) := by
          have h1 : List.range ops.length = List.range n1 ++ List.range' n1 (ops.length - n1) := by
            rw [List.range_eq_range', List.range_eq_range']
            have := List.range'_append (s := 0) (m := n1) (n := ops.length - n1) (step := 1)
            simp only [Nat.zero_add, Nat.one_mul] at this
            rw [this]
            congr 1; omega
          rw [h1, List.filter_append, List.filter_eq_nil_iff.2 (by intro j hj; simp [hL1 j (List.mem_range.1 hj)]), List.filter_eq_self.2 (by intro j hj; simp [hL2 j (List.mem_range'_1.1 hj).1])]
          rfl
        rw [hr, hbase]
      rw [e2] at hS'
      refine hS'.perm (List.Perm.append_right _ (List.Perm.of_eq ?_))
      unfold PlanB.mem
      congr 1
      have h1 : List.range ops.length = List.range n1 ++ List.range' n1 (ops.length - n1) := by
        rw [List.range_eq_range', List.range_eq_range']
        have := List.range'_append (s := 0) (m := n1) (n := ops.length - n1) (step := 1)
        simp only [Nat.zero_add, Nat.one_mul] at this
        rw [this]
        congr 1; omega
      have h9 : (List.range' n1 (ops.length - n1)).filter (p.live L) = [] := List.filter_eq_nil_iff.2 (by intro j hj; simp [PlanB.live, hL2 j (List.mem_range'_1.1 hj).1])
      rw [h1, List.filter_append, h9, List.append_nil]
      refine List.filter_congr fun j hj => ?_
      have h2 := hL1 j (List.mem_range.1 hj)
      simp only [PlanB.live, h2, Bool.true_and]
      cases hc : p.con j with
      | none => rfl
      | some c =>
        have := List.all_eq_true.1 hcon j hj
        rw [hc] at this
        simp only [decide_eq_true_eq] at this
        simp [hL1 c this]
end
end Go.Sv

/-
  Package balance: push, pop, New, ready, find.
-/
set_option linter.unusedSimpArgs false
set_option linter.unusedVariables false
set_option linter.unnecessarySimpa false
namespace Go.Proofs.YtmnnffenijjpcaaDoor
open Go Go.Sv Go.RowKit

def puP (b : Nat) (qo : Option Addr) (co : Nat) (op : List Nm) (nm : Nm) : PlanB Unit where
  pl k d := match k with
    | 17 => [pOwn d.b [str nm]]
    | 18 => [pRow 1 (pb d.b) (op.length + 1) d.c (strs op ++ [str nm])]
    | _ => []
  con k := match k with
    | 17 => some 18
    | _ => none
  base k := match k with
    | _ => []
  fact k a := match k with
    | 0 => (a 0).v = ptrAt (pb b) 0
    | 1 => (a 1).v = ptrAt (pb b) 0
    | 2 => (a 2).v = ptrAt (pb b) 0
    | 3 => (a 3).v = ptrAt (pb b) 0
    | 4 => (a 4).v = .slice qo op.length co
    | 5 => (a 5).v = ptrAt (pb b) 0
    | 6 => (a 6).v = ptrAt (pb b) 0
    | 7 => (a 7).v = ptrAt (pb b) 0
    | 8 => (a 8).v = .slice qo op.length co
    | 9 => (a 9).v = int op.length
    | 10 => (a 10).v = ptrAt (pb b) 0
    | 11 => (a 11).v = ptrAt (pb b) 0
    | 12 => (a 12).v = ptrAt (pb b) 0
    | 13 => (a 13).v = .slice qo op.length co
    | 14 => (a 14).v = int op.length
    | 15 => (a 15).v = .slice qo op.length op.length
    | 16 => (a 16).v = str nm
    | 17 => (a 17).v = .slice (pb (a 17).b) 1 1
    | 18 => (a 18).v = .slice (pb (a 18).b) (op.length + 1) (a 18).c
    | 19 => True
    | 20 => True
    | 21 => True
    | _ => True
set_option maxHeartbeats 4000000 in
theorem bPush_ok (m : BaM) (b : Nat) (nm : Nm) (es : List At) (p : Option Addr) (c : Nat) (hco : m.s.op.length ≤ m.co) (hcg : m.s.gh.length ≤ m.cg) (hol : m.s.op.length ≤ 4194304) (htl : m.ms.length ≤ 4194304) (w0 w : World) (cs : List Plot) (hS : Sep w0 w (pRow 2 p es.length c (es.flatMap At.cells) :: m.plots b cs)) :
    CallsR Tryd.prog 28 #[ptrAt (pb b) 0, str nm, .slice p es.length c] w fun _ w' => BaP m b (pushB m.s nm) [opE nm es] [] w0 cs w' := by
  obtain ⟨⟨op, gh, fr⟩, qo, co, qg, cg, ms, qt, ct, fs, qf, cf, dp, ov⟩ := m
  dsimp only at hco hcg hol htl
  have hsl := strs_len op
  replace hS : Sep w0 w (pRow 2 p es.length c (es.flatMap At.cells) :: pOwn b [.slice qo op.length co, .slice qg gh.length cg, .bool fr, .slice qt ms.length ct, int dp, .slice qf fs.length cf, .bool true, .bool ov] :: pVw qo (strs op) :: pVw qg (strs gh) :: pRow 4 qt ms.length ct (ms.flatMap EvM.cells) :: pMany (ms.map EvM.row) :: pRow 5 qf fs.length cf (fs.flatMap Fi.cells) :: cs) := hS
  refine enter (l := [ptrAt (pb b) 0, str nm, .slice p es.length c]) Tryd.func28 rfl Tryd.ntmps28 (by kernel_rfl) rfl ?_
  refine sgo ?_
  refine wlbuild (cells := [int 1, str nm, str [], .slice p es.length c]) ?_
  refine sgo ?_
  refine sb1a (vs := EvM.cells ⟨opE nm es, p, c⟩) hS fun b1 w1 hS => ?_
  refine sgo ?_
  refine sapp hS 5 (hS.own 0 rfl).sg (fun q2 c2 w2 hS => ?_) (h1 := ev_one _ _ _)
  rw [evs_flat] at hS
  refine sgo ?_
  refine sst_slice hS 2 fun w3 hS => ?_
  replace hS := Sep.tell hS
  replace hS : Sep w0 w3 (pOwn b [.slice qo op.length co, .slice qg gh.length cg, .bool fr, .slice q2 (ms.length + 1) c2, int dp, .slice qf fs.length cf, .bool true, .bool ov] :: pVw qo (strs op) :: pVw qg (strs gh) :: pRow 4 q2 (ms.length + 1) c2 ((ms ++ [EvM.mk (opE nm es) p c]).flatMap EvM.cells) :: pMany ((ms ++ [EvM.mk (opE nm es) p c]).map EvM.row) :: pRow 5 qf fs.length cf (fs.flatMap Fi.cells) :: cs) := by rw [List.map_append]; exact hS
  refine sgo ?_
  refine wcplant (b := []) 19 (puP b qo co op nm) ⟨.nilIface, none, 0, 0, ()⟩ hS rfl (fun j oj a a' hj he hd h => ?_) ?_ ?_
  · have hjl : j < 22 := (List.getElem?_eq_some_iff.1 hj).1
    match j, hjl with
    | 0, _ | 1, _ | 2, _ | 3, _ | 4, _ | 5, _ | 6, _ | 7, _ | 8, _ | 9, _ | 10, _ | 11, _ | 12, _ | 13, _ | 14, _ | 15, _ | 16, _ | 17, _ | 18, _ | 19, _ | 20, _ | 21, _ => first | (simp only [puP] at h ⊢; rw [← he]; exact h) | exact h
  · refine ⟨?_, ?_, ?_, ?_, ?_, ?_, ?_, ?_, ?_, ?_, ?_, ?_, ?_, ?_, ?_, ?_, ?_, ?_, ?_, trivial⟩
    · intro a σ' w' rest hσ hdep hS'   -- 0: move; pieces:  ..
      have e0 : σ' 0 = ptrAt (pb b) 0 := (hσ 0 (notDstB rfl)).trans rfl
      exact rule_e [(0, _)] ⟨e0, trivial⟩ ⟨⟨ptrAt (pb b) 0, none, 0, 0, ()⟩, rfl, rfl, hS'⟩
    · intro a σ' w' rest hσ hdep hS'   -- 1: move; pieces:  ..
      have e0 : σ' 0 = ptrAt (pb b) 0 := (hσ 0 (notDstB rfl)).trans rfl
      exact rule_e [(0, _)] ⟨e0, trivial⟩ ⟨⟨ptrAt (pb b) 0, none, 0, 0, ()⟩, rfl, rfl, hS'⟩
    · intro a σ' w' rest hσ hdep hS'   -- 2: nilCheck; pieces:  ..
      have f1 := (hdep 1 _ rfl rfl).2
      have e19 := ((hdep 1 _ rfl rfl).1 19 rfl).trans f1
      exact rule_y (y_nilcheckp e19 ⟨_, rfl⟩) ⟨⟨ptrAt (pb b) 0, none, 0, 0, ()⟩, rfl, rfl, hS'⟩
    · intro a σ' w' rest hσ hdep hS'   -- 3: fieldAddr; pieces:  ..
      have f2 := (hdep 2 _ rfl rfl).2
      have e20 := ((hdep 2 _ rfl rfl).1 20 rfl).trans f2
      exact rule_y (y_field e20 ⟨_, rfl⟩ (by decide)) ⟨⟨ptrAt (pb b) 0, none, 0, 0, ()⟩, rfl, rfl, hS'⟩
    · intro a σ' w' rest hσ hdep hS'   -- 4: load; pieces:  ..
      have f3 := (hdep 3 _ rfl rfl).2
      have e21 := ((hdep 3 _ rfl rfl).1 21 rfl).trans f3
      exact rule_y (y_load e21 (Sep.sgv hS' 0 rfl) rfl) ⟨⟨.slice qo op.length co, none, 0, 0, ()⟩, rfl, rfl, hS'⟩
    · intro a σ' w' rest hσ hdep hS'   -- 5: move; pieces:  ..
      have e0 : σ' 0 = ptrAt (pb b) 0 := (hσ 0 (notDstB rfl)).trans rfl
      exact rule_e [(0, _)] ⟨e0, trivial⟩ ⟨⟨ptrAt (pb b) 0, none, 0, 0, ()⟩, rfl, rfl, hS'⟩
    · intro a σ' w' rest hσ hdep hS'   -- 6: nilCheck; pieces:  ..
      have f5 := (hdep 5 _ rfl rfl).2
      have e23 := ((hdep 5 _ rfl rfl).1 23 rfl).trans f5
      exact rule_y (y_nilcheckp e23 ⟨_, rfl⟩) ⟨⟨ptrAt (pb b) 0, none, 0, 0, ()⟩, rfl, rfl, hS'⟩
    · intro a σ' w' rest hσ hdep hS'   -- 7: fieldAddr; pieces:  ..
      have f6 := (hdep 6 _ rfl rfl).2
      have e24 := ((hdep 6 _ rfl rfl).1 24 rfl).trans f6
      exact rule_y (y_field e24 ⟨_, rfl⟩ (by decide)) ⟨⟨ptrAt (pb b) 0, none, 0, 0, ()⟩, rfl, rfl, hS'⟩
    · intro a σ' w' rest hσ hdep hS'   -- 8: load; pieces:  ..
      have f7 := (hdep 7 _ rfl rfl).2
      have e25 := ((hdep 7 _ rfl rfl).1 25 rfl).trans f7
      exact rule_y (y_load e25 (Sep.sgv hS' 0 rfl) rfl) ⟨⟨.slice qo op.length co, none, 0, 0, ()⟩, rfl, rfl, hS'⟩
    · intro a σ' w' rest hσ hdep hS'   -- 9: call; pieces:  ..
      have f8 := (hdep 8 _ rfl rfl).2
      have e26 := ((hdep 8 _ rfl rfl).1 26 rfl).trans f8
      exact rule_y (y_len e26 rfl) ⟨⟨int op.length, none, 0, 0, ()⟩, rfl, rfl, hS'⟩
    · intro a σ' w' rest hσ hdep hS'   -- 10: move; pieces:  ..
      have e0 : σ' 0 = ptrAt (pb b) 0 := (hσ 0 (notDstB rfl)).trans rfl
      exact rule_e [(0, _)] ⟨e0, trivial⟩ ⟨⟨ptrAt (pb b) 0, none, 0, 0, ()⟩, rfl, rfl, hS'⟩
    · intro a σ' w' rest hσ hdep hS'   -- 11: nilCheck; pieces:  ..
      have f10 := (hdep 10 _ rfl rfl).2
      have e28 := ((hdep 10 _ rfl rfl).1 28 rfl).trans f10
      exact rule_y (y_nilcheckp e28 ⟨_, rfl⟩) ⟨⟨ptrAt (pb b) 0, none, 0, 0, ()⟩, rfl, rfl, hS'⟩
    · intro a σ' w' rest hσ hdep hS'   -- 12: fieldAddr; pieces:  ..
      have f11 := (hdep 11 _ rfl rfl).2
      have e29 := ((hdep 11 _ rfl rfl).1 29 rfl).trans f11
      exact rule_y (y_field e29 ⟨_, rfl⟩ (by decide)) ⟨⟨ptrAt (pb b) 0, none, 0, 0, ()⟩, rfl, rfl, hS'⟩
    · intro a σ' w' rest hσ hdep hS'   -- 13: load; pieces:  ..
      have f12 := (hdep 12 _ rfl rfl).2
      have e30 := ((hdep 12 _ rfl rfl).1 30 rfl).trans f12
      exact rule_y (y_load e30 (Sep.sgv hS' 0 rfl) rfl) ⟨⟨.slice qo op.length co, none, 0, 0, ()⟩, rfl, rfl, hS'⟩
    · intro a σ' w' rest hσ hdep hS'   -- 14: call; pieces:  ..
      have f13 := (hdep 13 _ rfl rfl).2
      have e31 := ((hdep 13 _ rfl rfl).1 31 rfl).trans f13
      exact rule_y (y_len e31 rfl) ⟨⟨int op.length, none, 0, 0, ()⟩, rfl, rfl, hS'⟩
    · intro a σ' w' rest hσ hdep hS'   -- 15: slice; pieces:  ..
      have f4 := (hdep 4 _ rfl rfl).2
      have e22 := ((hdep 4 _ rfl rfl).1 22 rfl).trans f4
      have f9 := (hdep 9 _ rfl rfl).2
      have e27 := ((hdep 9 _ rfl rfl).1 27 rfl).trans f9
      have f14 := (hdep 14 _ rfl rfl).2
      have e32 := ((hdep 14 _ rfl rfl).1 32 rfl).trans f14
      exact rule_y (y_rslice3 e22 e27 e32 ⟨Nat.le_refl _, hco⟩) ⟨⟨.slice qo op.length op.length, none, 0, 0, ()⟩, rfl, rfl, hS'⟩
    · intro a σ' w' rest hσ hdep hS'   -- 16: move; pieces:  ..
      have e1 : σ' 1 = str nm := (hσ 1 (notDstB rfl)).trans rfl
      exact rule_e [(1, _)] ⟨e1, trivial⟩ ⟨⟨str nm, none, 0, 0, ()⟩, rfl, rfl, hS'⟩
    · intro a σ' w' rest hσ hdep hS'   -- 17: buildSlice; pieces:  ..
      have f16 := (hdep 16 _ rfl rfl).2
      have e34 := ((hdep 16 _ rfl rfl).1 34 rfl).trans f16
      obtain ⟨b, w2, hy, hS2⟩ := y_bs1s (P := Tryd.prog) (t := 30) (d := some 35) (x := .tmp 34) hS' e34 rfl
      exact rule_y hy ⟨⟨.slice (pb b) 1 1, none, 0, b, ()⟩, rfl, rfl, hS2⟩
    · intro a σ' w' rest hσ hdep hS'   -- 18: call; pieces: takes 17 ..
      have f15 := (hdep 15 _ rfl rfl).2
      have e33 := ((hdep 15 _ rfl rfl).1 33 rfl).trans f15
      have f17 := (hdep 17 _ rfl rfl).2
      have e35 := ((hdep 17 _ rfl rfl).1 35 rfl).trans f17
      obtain ⟨b, c2, w2, hy, hS2⟩ := y_appf (P := Tryd.prog) (t := 30) (t' := 30) (ty := 30) (d := some 36) (x := .tmp 33) (y := .tmp 35) (n := op.length) (m := 1) (size := 1) hS' (hS'.sgv 2 rfl) (hS'.own 0 rfl).sg (by rw [strs_len, Nat.mul_one]) e33 e35 rfl (by simp [Go.Value.oneCell']) rfl (by decide) (by omega) (by omega)
      exact rule_y hy ⟨⟨.slice (pb b) (op.length + 1) c2, none, c2, b, ()⟩, rfl, rfl, hS2.drop 1 rfl⟩
  · intro a σ' w' hσ hA' hS'
    have h0 := hA' 0 _ rfl
    have h18 := hA' 18 _ rfl
    rw [frameOf (σ := σ') [(0, ptrAt (pb b) 0), (1, str nm), (18, ptrAt (pb b) 0), (36, .slice (pb (a 18).b) (op.length + 1) (a 18).c)]
      ⟨(hσ 0 (notDst rfl)).trans rfl, (hσ 1 (notDst rfl)).trans rfl, (h0.1 18 rfl).trans h0.2, (h18.1 36 rfl).trans h18.2, trivial⟩]
    clear hS
    have hS : Sep w0 w' (pRow 1 (pb (a 18).b) (op.length + 1) (a 18).c (strs op ++ [str nm]) :: pOwn b [.slice qo op.length co, .slice qg gh.length cg, .bool fr, .slice q2 (ms.length + 1) c2, int dp, .slice qf fs.length cf, .bool true, .bool ov] :: pVw qo (strs op) :: pVw qg (strs gh) :: pRow 4 q2 (ms.length + 1) c2 ((ms ++ [EvM.mk (opE nm es) p c]).flatMap EvM.cells) :: pMany ((ms ++ [EvM.mk (opE nm es) p c]).map EvM.row) :: pRow 5 qf fs.length cf (fs.flatMap Fi.cells) :: cs) := hS'
    have hrow := (hS.row 0 rfl).le_cap
    rw [strs_snoc, show op.length + 1 = (op ++ [nm]).length by simp, show ms.length + 1 = (ms ++ [EvM.mk (opE nm es) p c]).length by simp] at hS
    rw [show op.length + 1 = (op ++ [nm]).length by simp] at hrow
    rw [show op.length + 1 = (op ++ [nm]).length by simp]
    generalize pb (a 18).b = q5 at *
    generalize (a 18).c = c5 at *
    clear hA' hσ hS' h0 h18
    refine sgo ?_
    refine sst_slice hS 1 fun w6 hS => ?_
    refine sgo ?_
    refine sst_bool hS 1 fun w7 hS => ?_
    refine sgo ?_
    (first | refine fp1 (.inl rfl) rfl rfl ?_ | refine fp2 (.inl rfl) rfl rfl rfl ?_ | refine fp3 (.inl rfl) rfl rfl rfl rfl ?_ | refine fp0 (.inr rfl) rfl ?_ | refine fp0 (.inl rfl) rfl ?_ | refine fp1 (.inr rfl) rfl rfl ?_)
    refine ⟨⟨⟨op ++ [nm], gh, isFr nm⟩, q5, c5, qg, cg, ms ++ [EvM.mk (opE nm es) p c], q2, c2, fs, qf, cf, dp, ov⟩, ⟨rfl, evs_snoc _ _, (List.append_nil _).symm, rfl, rfl, hrow.1, hcg⟩, ?_⟩
    exact (hS.rowVw 0 rfl).sel 4 [1, 0, 3]

end Go.Proofs.YtmnnffenijjpcaaDoor

