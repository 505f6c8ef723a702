/-
  Our texts SvPt, SvEvT, SvPu, SvPost, SvOpen, SvOpnAt, SvOpn18, SvOpn18c, SvOpnB, SvOpn, SvAsc, joined.
-/
import Derived.Test.YthgbpgjpnaanlaaDoorMg7
import Derived.ChangeSame
import Derived.Test.YthgbpgjpnaanlaaDoorRows
import Derived.WalkKit
import Derived.ProofKit
import Derived.OpenShut
import Derived.JoinedCond
import Derived.Deep.Slices
import Derived.WideKeyArgs
import Derived.Lib.LaidTab
import Derived.Deep.DeepHandedRow
import Derived.Deep.DeepWitnessRowRef
/-
  Package event: Paths; sieveref18: Paths.
-/
set_option linter.unusedSimpArgs false
set_option linter.unusedVariables false
set_option linter.unnecessarySimpa false
namespace Go.Sv
open Go Go.RowKit
section
variable {P : Program} {w w' w0 : World} {t tx t' ty e e' : TypeId} {z : Value} {size bytes n m c c' k : Nat} {p q : Option Addr} {xs news : List Value} {x y : Operand} {cs : List Plot} {σ : Env} {d : Option Tmp} {pos : String} {af : Array Edge}
/-- append to a slice that is full: a new row, the old one stays -/
theorem run_append_full {u : Value} [hu : Und P t (.slice e)] [hi : Inf P e z size bytes] (hz : z.cells.size = size) (hx : Sg w p xs) (hl : xs.length = n * size) (hs : Src P size tx u m news w) (hm : 0 < m)
    (h63 : n + m ≤ 9223372036854775807) (hb : (n + m) * bytes ≤ 140737488355328) :
    ∃ b c' w', (Builtin.append_ #[t, tx] ty #[.slice p n n, u]).run P w = .ok (.slice (pb b) (n + m) c') w' ∧ w.heap.size ≤ b ∧ Row w' size (pb b) (n + m) c' (xs ++ news) ∧ Frm w w' := by
  obtain ⟨i, hi1, hi2, hi3, hi4⟩ := inf_size (P := P) (t := e)
  subst hi3
  subst hi4
  have hlen : (xs ++ news).length = (n + m) * i.size := by rw [List.length_append, hl, hs.newsLen, Nat.add_mul]
  have hold : (Builtin.firstCells i.size n (.slice p n n)).run P w.drew = .ok xs.toArray w.drew := by
    rcases hx with h0 | ⟨a, rfl, h0⟩
    · subst h0
      have hn0 : n * i.size = 0 := by simpa using hl.symm
      cases p with
      | none => exact run_firstCells_none w.drew i.size n n n
      | some a => exact run_firstCells_some w.drew i.size n a n n [] (by simpa using hn0.symm) (by simp)
    · refine run_firstCells_some w.drew i.size n a n n xs hl (fun j v hj => ?_)
      have hlt : j < xs.length := by
        rcases Nat.lt_or_ge j xs.length with h | h
        · exact h
        · rw [List.getElem?_eq_none h] at hj; cases hj
      have := h0 j hlt
      rw [World.cell?_drew, this]; exact hj
  have hrun := run_append_grow_src (P := P) w t tx ty e i z hu.ok hi1 hi2 p n n xs hold u m news hs (by omega) (by omega) (growslice_fits (by omega) hb)
  have hge := grownCap_ge w (n + m) n e
  have hcm := grownCap_le_maxLen w (n + m) n e (by unfold maxLen; omega)
  refine ⟨_, _, _, hrun, Nat.le_refl _, ⟨hlen, .inr ⟨w.heap.size, 0, _, e, rfl, heap_alloc_new w.drew _, hge, by unfold maxLen at hcm; omega, ?_, ?_⟩⟩, ⟨rfl, rfl, rfl, by simp, fun k hk => Below.heap_alloc w.drew _ k hk⟩⟩
  · simp only [Array.size_append, List.size_toArray, hlen, size_zeroCells, hz, ← Nat.add_mul, Nat.zero_add]
    apply Nat.mul_le_mul_right; omega
  · simp only [List.drop_zero, Array.toList_append]
    rw [← hlen]; exact List.take_left
theorem y_appf [hu : Und P t (.slice e)] [hu' : Und P t' (.slice e')] [hi : Inf P e z size bytes] (hS : Sep w0 w cs) (hp : Sg w p xs) (hs : Sg w q news) (hpl : xs.length = n * size) (hx : evl σ x = .slice p n n) (hy : evl σ y = .slice q m c') (hl : news.length = m * size)
    (h1 : ∀ u ∈ news, u.oneCell' = true) (hz : z.cells.size = size) (hm : 0 < m) (h63 : n + m ≤ 9223372036854775807) (hb : (n + m) * bytes ≤ 140737488355328) :
    ∃ b c2 w', Y P σ ⟨d, .call ⟨.builtin .append, #[x, y], #[t, t']⟩, ty, pos, af, none⟩ w (.slice (pb b) (n + m) c2) w' ∧ Sep w0 w' (pRow size (pb b) (n + m) c2 (xs ++ news) :: cs) := by
  obtain ⟨b, c2, w', h2, h3, h4, h5⟩ := run_append_full (P := P) (t := t) (tx := t') (ty := ty) (e := e) hz hp hpl (src_of_sg (tx := t') (c := c') hs hl h1) hm h63 hb
  exact ⟨b, c2, w', run_append_op hx hy h2, hS.push h5 h4 (by simpa [pRow, rb] using h3)⟩
theorem y_bs1s {s : List UInt8} [hu : Und P t (.slice e)] [hi : Inf P e z 1 bytes] (hS : Sep w0 w cs) (hx : evl σ x = str s) (hz : z.cells.size = 1) :
    ∃ b w', Y P σ ⟨d, .buildSlice t 1 #[(0, x)], ty, pos, af, none⟩ w (.slice (pb b) 1 1) w' ∧ Sep w0 w' (pOwn b [str s] :: cs) := by
  refine ⟨w.heap.size, w.alloc (.cells #[str s] e), Y.val ?_, hS.push (frm_alloc _ _) (own_alloc _ _ _) (by simp [pOwn])⟩
  simp only [execOp, List.map_toArray, List.map_cons, List.map_nil, hx, Sem.run_bind]
  rw [run_buildSlice1 (P := P) (t := t) (e := e) hz (by rfl) (by decide) (by decide)]
  rfl
/-- a field of a struct's value -/
theorem y_fldv {i off ft : Nat} {cells : Array Value} {v : Value} {g : Option (Nat × Bool)} [hf : Fld P t i off ft] [ha : Agg P ft false] [hi : Inf P ft z 1 bytes] (hx : evl σ x = .agg cells) (hc : cells[off]? = some v) : Y P σ ⟨d, .field t x i, ty, pos, af, g⟩ w v w := by
  obtain ⟨fs, f, h1, h2, h3, h4⟩ := hf.ok
  refine Y.val ?_
  simp only [execOp, hx, Instr.field, Sem.run_bind, underlying, run_program, Result.andThen_ok, h1, Sem.run_pure, h2]
  subst h3
  subst h4
  simp [asAgg, part, run_isAgg (P := P) (t := f.type), hc]
end
end Go.Sv
namespace Go.Proofs.YthgbpgjpnaanlaaDoor
open Go Go.Sv Go.RowKit

/-- the way of an element in others -/
def pthR (st : List (List UInt8)) (x : List UInt8) : List UInt8 := (st.flatMap fun n => n ++ [47]) ++ x
theorem join_pth (st : List (List UInt8)) (x : List UInt8) : joinR [47] (st ++ [x]) = pthR st x := by
  have key : ∀ (st : List (List UInt8)) (y : List UInt8), y ++ ((st ++ [x]).flatMap fun z => [47] ++ z) = ((y :: st).flatMap fun n => n ++ [47]) ++ x := by
    intro st
    induction st with
    | nil => intro y; simp
    | cons z st ih => intro y; have := ih z; simp only [List.cons_append, List.flatMap_cons, List.append_assoc] at this ⊢; rw [this]
  cases st with
  | nil => simp [joinR, pthR]
  | cons y st => exact key st y
def nmw (st : List (List UInt8)) : Nat := (st.map fun n => n.length + 1).sum
theorem pth_len (st : List (List UInt8)) (x : List UInt8) : (pthR st x).length = nmw st + x.length := by
  have : (st.flatMap fun n => n ++ [(47 : UInt8)]).length = nmw st := by
    induction st with
    | nil => rfl
    | cons y st ih => simp only [List.flatMap_cons, List.length_append, ih, nmw, List.map_cons, List.sum_cons, List.length_singleton]
  rw [pthR, List.length_append, this]
theorem nmw_snoc (st : List (List UInt8)) (x : List UInt8) : nmw (st ++ [x]) = nmw st + (x.length + 1) := by simp [nmw]
theorem nmw_dropLast (st : List (List UInt8)) : nmw st.dropLast ≤ nmw st := by
  rcases List.eq_nil_or_concat st with rfl | ⟨a, b, rfl⟩
  · simp
  · rw [List.concat_eq_append, List.dropLast_concat, nmw_snoc]; omega
theorem nmw_lk (l : List Ev) : nmw (lkR l).stack ≤ (l.map fun e => e.name.length + 1).sum := by
  have key : ∀ (l : List Ev) (k : Lk), nmw (l.foldl lkStep k).stack ≤ nmw k.stack + (l.map fun e => e.name.length + 1).sum := by
    intro l
    induction l with
    | nil => intro k; simp
    | cons e l ih =>
      intro k
      rw [List.foldl_cons]
      have h1 := ih (lkStep k e)
      have h2 : nmw (lkStep k e).stack ≤ nmw k.stack + (e.name.length + 1) := by
        have hd := nmw_dropLast k.stack
        have hsn := nmw_snoc k.stack e.name
        unfold lkStep
        split
        · split
          · split
            · dsimp only; omega
            · split
              · dsimp only; omega
              · split
                · split
                  · dsimp only; omega
                  · dsimp only; omega
                · dsimp only; omega
          · dsimp only; omega
        · omega
      rw [List.map_cons, List.sum_cons]; omega
  have h := key l lk0
  have h0 : nmw lk0.stack = 0 := rfl
  rw [h0, Nat.zero_add] at h
  exact h
theorem sum_take_le {α : Type} (f : α → Nat) (l : List α) (i : Nat) : ((l.take i).map f).sum ≤ (l.map f).sum := by
  have h : (l.map f).sum = ((l.take i).map f).sum + ((l.drop i).map f).sum := by
    rw [← List.sum_append, ← List.map_append, List.take_append_drop]
  omega
theorem nmw_bound {ms : List EvM} (hw : evw ms ≤ 1048576) (i : Nat) : nmw (lkI ms i).stack ≤ 1048576 := by
  have h1 := nmw_lk ((evs ms).take i)
  have h2 := sum_take_le (fun e : Ev => e.name.length + 1) (evs ms) i
  have h3 : ((evs ms).map fun e => e.name.length + 1).sum ≤ evw ms := by
    unfold evs evw
    rw [List.map_map]
    clear hw h1 h2
    induction ms with
    | nil => simp
    | cons m ms ih =>
      simp only [List.map_cons, List.sum_cons, Function.comp]
      have : m.e.name.length + 1 ≤ m.e.wt := by unfold Ev.wt; omega
      omega
  exact Nat.le_trans (Nat.le_trans h1 h2) (Nat.le_trans h3 hw)
/-- where elements stand, of the first i -/
def pathsI (ms : List EvM) : Nat → List (List UInt8)
  | 0 => []
  | i + 1 => pathsI ms i ++ (match ms[i]? with | some m => if m.e.kind = 1 ∨ m.e.kind = 3 then [pthR (lkI ms i).stack m.e.name] else [] | none => [])
theorem pathsI_succ {ms : List EvM} {i : Nat} {m : EvM} (h : ms[i]? = some m) : pathsI ms (i + 1) = pathsI ms i ++ (if m.e.kind = 1 ∨ m.e.kind = 3 then [pthR (lkI ms i).stack m.e.name] else []) := by rw [pathsI, h]
theorem pathsI_len (ms : List EvM) (i : Nat) : (pathsI ms i).length ≤ i := by
  induction i with
  | zero => exact Nat.le_refl _
  | succ i ih =>
    rw [pathsI, List.length_append]
    split
    · split
      · simp; omega
      · simp; omega
    · simp; omega
def pthP (b7 b9 : Nat) (q q6 : Option Addr) (cc c6 : Nat) (st out : List (List UInt8)) (nm : List UInt8) : PlanB Unit where
  pl k d := match k with
    | 12 => [pOwn d.b [str nm]]
    | 13 => [pRow 1 d.p (st.length + 1) d.c (strs st ++ [str nm])]
    | 15 => [pOwn d.b [str (pthR st nm)]]
    | 16 => [pRow 1 d.p (out.length + 1) d.c (strs out ++ [str (pthR st nm)])]
    | _ => []
  con k := match k with
    | 12 => some 13
    | 13 => some 14
    | 15 => some 16
    | _ => none
  base k := match k with
    | 16 => [pRow 1 q6 out.length c6 (strs out)]
    | _ => []
  fact k a := match k with
    | 0 => (a 0).v = .slice q6 out.length c6
    | 1 => (a 1).v = ptrAt (pb b7) 0
    | 2 => (a 2).v = .slice q st.length cc
    | 3 => (a 3).v = ptrAt (pb b7) 0
    | 4 => (a 4).v = .slice q st.length cc
    | 5 => (a 5).v = int st.length
    | 6 => (a 6).v = ptrAt (pb b7) 0
    | 7 => (a 7).v = .slice q st.length cc
    | 8 => (a 8).v = int st.length
    | 9 => (a 9).v = .slice q st.length st.length
    | 10 => (a 10).v = ptrAt (pb b9) 1
    | 11 => (a 11).v = str nm
    | 12 => (a 12).v = .slice (pb (a 12).b) 1 1
    | 13 => (a 13).v = .slice (a 13).p (st.length + 1) (a 13).c
    | 14 => (a 14).v = str (pthR st nm)
    | 15 => (a 15).v = .slice (pb (a 15).b) 1 1
    | 16 => (a 16).v = .slice (a 16).p (out.length + 1) (a 16).c
    | 17 => (a 17).v = .slice (a 16).p (out.length + 1) (a 16).c
    | _ => True
theorem lkI_right {ms : List EvM} (h : (lkR (evs ms)).err = 0) (i : Nat) : (lkI ms i).err = 0 := by
  rcases Classical.em ((lkI ms i).err = 0) with h0 | h0
  · exact h0
  · rw [lkI_stop h0] at h; exact absurd h h0
set_option maxHeartbeats 4000000 in
theorem paths_ok (ms : List EvM) (p : Option Addr) (c : Nat) (hw : evw ms ≤ 1048576) (w0 w : World) (cs : List Plot) (hS0 : Sep w0 w cs) (hA : Asc w) (hE : Evs w p ms) :
    CallsR Tryd.prog 38 #[.slice p ms.length c] w fun v w' => ∃ q cc, v = .tuple #[.slice q (if (lkR (evs ms)).err = 0 then pathsI ms ms.length else []).length cc, int (lkR (evs ms)).err] ∧ Frm w w' ∧ Sep w0 w' (pRow 1 q (if (lkR (evs ms)).err = 0 then pathsI ms ms.length else []).length cc (strs (if (lkR (evs ms)).err = 0 then pathsI ms ms.length else [])) :: cs) := by
  have hn : ms.length ≤ 1048576 := by
    have := sum_len (fun m : EvM => m.e.wt) ms (by intro m _; show 1 ≤ Ev.wt m.e; unfold Ev.wt; omega)
    unfold evw at hw; omega
  have hs : ∀ m ∈ ms, m.e.small := fun m hm => Ev.small_of (Nat.le_trans (sum_mem (fun m : EvM => m.e.wt) ms hm) hw)
  have hS := Sep.start w
  refine enter (l := [.slice p ms.length c]) Tryd.func38 rfl Tryd.ntmps38 (by kernel_rfl) rfl ?_
  refine sgo ?_
  refine wlpure (nested_ok ms p c hn hs w hA hE) fun w1 hf1 => ?_
  replace hS := hS.grow hf1
  refine sgo ?_
  by_cases hr : (lkR (evs ms)).err = 0
  · refine wcno ?_ (ht := by simpa using hr)
    simp only [if_pos hr]
    replace hS := ((hS).push (c := pRow 1 none 0 0 (strs [])) (Frm.refl _) (Row.nil _ 1) (by simp [pRow, rb]))
    refine sgo ?_
    refine salloc hS fun b7 w7 hS => ?_
    replace hS : Sep w w7 [pOwn b7 [.slice none 0 0], pRow 1 none 0 0 (strs [])] := hS
    replace hS := (hS.push (c := pRow 1 none 0 0 (strs [])) (Frm.refl w7) (Row.nil w7 1) (by simp [pRow, rb])).front 1 rfl
    refine sgo ?_
    refine wcloop (X := Nat × Option Addr × Nat × Option Addr × Nat) (fun x => [(6, .slice x.2.1 (pathsI ms x.1).length x.2.2.1), (7, ptrAt (pb b7) 0), (18, .slice p ms.length c), (19, int ms.length), (20, int x.1)])
      (fun x wr => x.1 ≤ ms.length ∧ Sep w wr [pOwn b7 [.slice x.2.2.2.1 (lkI ms x.1).stack.length x.2.2.2.2], pRow 1 x.2.2.2.1 (lkI ms x.1).stack.length x.2.2.2.2 (strs (lkI ms x.1).stack), pRow 1 x.2.1 (pathsI ms x.1).length x.2.2.1 (strs (pathsI ms x.1))])
      (fun x => ms.length - x.1) (0, none, 0, none, 0) ⟨rfl, rfl, rfl, rfl, rfl, trivial⟩ ⟨Nat.zero_le _, hS⟩ ?_
    clear hS
    rintro ⟨i, q6, c6, q, cc⟩ wr ρ ⟨hil, hS⟩
    dsimp only at *
    have herr := lkI_right hr i
    have hok := lkI_ok hil herr
    have hpl := pathsI_len ms i
    have hnm := nmw_bound hw i
    refine sgo ?_
    (show WC _ _ _ _ _ _ _; first | refine WC_dec rfl (fun hc => ?_) (fun hc => ?_) | refine WC_cond rfl (fun hc => ?_) (fun hc => ?_))
    · have hlt : i < ms.length := by omega
      have hIm := hE.im
      have hx : ms[i]? = some ms[i] := List.getElem?_eq_getElem hlt
      have hmem : ms[i] ∈ ms := List.getElem_mem hlt
      have hseg := fm_seg EvM.len ms hx
      have hfl := fm_len EvM.len ms
      have hsm := hs _ hmem
      have hps : ∃ a, p = some a := hE.im.sg.some (by omega)
      have hsuc := lkI_succ hx
      have hps1 := pathsI_succ hx
      have hright := lkI_right hr (i + 1)
      rw [hsuc] at hright
      obtain ⟨-, hstep⟩ := lk_right herr hright
      rw [hstep] at hsuc
      have hne : ms[i].e.kind = 2 → (lkI ms i).stack ≠ [] := by
        intro h2 h
        revert hright
        simp only [lkStep, herr, if_true, h2, h]
        split <;> simp
      generalize ms[i] = m at *
      generalize (lkI ms i).stack = st at *
      generalize pathsI ms i = out at *
      clear hc hright
      obtain ⟨⟨kd, nm, tx, es⟩, mp, mc⟩ := m
      dsimp only at hsuc hps1 hstep hne hsm
      have hnl : nm.length ≤ 1048576 := hsm.name
      have hjl : (pthR st nm).length ≤ 1073741824 := by rw [pth_len]; omega
      refine sgo ?_
      rw [hseg]
      refine salloc hS fun b9 w9 hS => ?_
      refine sgo ?_
      refine ssta (vs := [int kd, str nm, str tx, .slice mp es.length mc]) hS 0 fun w10 hS => ?_
      replace hS : Sep w w10 [pOwn b9 [int kd, str nm, str tx, .slice mp es.length mc], pOwn b7 [.slice q st.length cc], pRow 1 q st.length cc (strs st), pRow 1 q6 out.length c6 (strs out)] := hS
      refine sgo ?_
      by_cases h1 : kd = 1
      · subst h1
        rw [if_pos (.inl rfl)] at hps1
        have hst : (lkI ms (i + 1)).stack = st ++ [nm] := by rw [hsuc]; rfl
        refine sgo ?_
        refine wlcall (push_ok b7 q cc st nm (by omega) w w10 _ (hS.front 2 rfl |>.front 2 rfl)) ?_
        rintro _ w11 ⟨q', c', hS⟩
        have hrw := (hS.row 1 rfl).le_cap
        refine sgo ?_
        have hj := join_ok (st ++ [nm]) [47] q' c' hrw.1 (by rw [List.length_append, List.length_singleton]; omega) (by decide) (by rw [join_pth]; exact hjl) w11 (hS.im 1 rfl)
        rw [join_pth] at hj
        refine wlpure hj fun w12 hf12 => ?_
        replace hS := hS.grow hf12
        refine sgo ?_
        refine sb1s hS fun b2 w13 hS => ?_
        refine sgo ?_
        refine sapp hS 4 (hS.own 0 rfl).sg fun p' c2 w14 hS => ?_
        rw [strs_snoc] at hS
        have hn2 : out.length + 1 = (out ++ [pthR st nm]).length := by simp
        rw [hn2] at hS ⊢
        rw [← hps1] at hS ⊢
        rw [← hst] at hS
        refine sgo ?_
        exact ⟨(i + 1, p', c2, q', c'), ⟨rfl, rfl, rfl, rfl, rfl, trivial⟩, ⟨hlt, (hS.drop 0 rfl).drop 2 rfl⟩, (by (try dsimp only); omega)⟩
      · refine wcno ?_ (ht := decide_eq_false h1)
        refine sgo ?_
        by_cases h3 : kd = 3
        · subst h3
          rw [if_pos (.inr rfl)] at hps1
          have hst : (lkI ms (i + 1)).stack = st := by rw [hsuc]; rfl
          have hle := (hS.row 2 rfl).le_cap
          replace hS : Sep w w10 [pRow 1 q6 out.length c6 (strs out), pOwn b9 [int 3, str nm, str tx, .slice mp es.length mc], pOwn b7 [.slice q st.length cc], pRow 1 q st.length cc (strs st)] := hS.front 3 rfl
          refine sgo ?_
          refine wcplanb (b := [pRow 1 q6 out.length c6 (strs out)]) (pthP b7 b9 q q6 cc c6 st out nm) ⟨.nilIface, none, 0, 0, ()⟩ hS rfl (fun j oj a a' hj he hd h => ?_) ⟨?_, ?_, ?_, ?_, ?_, ?_, ?_, ?_, ?_, ?_, ?_, ?_, ?_, ?_, ?_, ?_, ?_, ?_, trivial⟩ ?_
          · have hjl : j < 18 := (List.getElem?_eq_some_iff.1 hj).1
            match j, hjl with
            | 0, _ | 1, _ | 2, _ | 3, _ | 4, _ | 5, _ | 6, _ | 7, _ | 8, _ | 9, _ | 10, _ | 11, _ | 12, _ | 13, _ | 14, _ | 15, _ | 16, _ => first | (simp only [pthP] at h ⊢; rw [← he]; exact h) | exact h
            | 17, _ => simp only [pthP] at h ⊢; rw [← he, ← hd 16 (by cases hj; rfl)]; exact h
          · intro a σ' w' rest hσ hdep hS'   -- 0: move
            have e6 : σ' 6 = .slice q6 out.length c6 := (hσ 6 (notDstB rfl)).trans rfl
            exact rule_e [(6, _)] ⟨e6, trivial⟩ ⟨⟨.slice q6 out.length c6, none, 0, 0, ()⟩, rfl, rfl, hS'⟩
          · intro a σ' w' rest hσ hdep hS'   -- 1: fieldAddr
            have e7 : σ' 7 = ptrAt (pb b7) 0 := (hσ 7 (notDstB rfl)).trans rfl
            exact rule_y (y_field e7 ⟨_, rfl⟩ (by decide)) ⟨⟨ptrAt (pb b7) 0, none, 0, 0, ()⟩, rfl, rfl, hS'⟩
          · intro a σ' w' rest hσ hdep hS'   -- 2: load
            have f1 := (hdep 1 _ rfl rfl).2
            have e40 := ((hdep 1 _ rfl rfl).1 40 rfl).trans f1
            exact rule_y (y_load e40 (Sep.sgv hS' 1 rfl) rfl) ⟨⟨.slice q st.length cc, none, 0, 0, ()⟩, rfl, rfl, hS'⟩
          · intro a σ' w' rest hσ hdep hS'   -- 3: fieldAddr
            have e7 : σ' 7 = ptrAt (pb b7) 0 := (hσ 7 (notDstB rfl)).trans rfl
            exact rule_y (y_field e7 ⟨_, rfl⟩ (by decide)) ⟨⟨ptrAt (pb b7) 0, none, 0, 0, ()⟩, rfl, rfl, hS'⟩
          · intro a σ' w' rest hσ hdep hS'   -- 4: load
            have f3 := (hdep 3 _ rfl rfl).2
            have e42 := ((hdep 3 _ rfl rfl).1 42 rfl).trans f3
            exact rule_y (y_load e42 (Sep.sgv hS' 1 rfl) rfl) ⟨⟨.slice q st.length cc, none, 0, 0, ()⟩, rfl, rfl, hS'⟩
          · intro a σ' w' rest hσ hdep hS'   -- 5: call
            have f4 := (hdep 4 _ rfl rfl).2
            have e43 := ((hdep 4 _ rfl rfl).1 43 rfl).trans f4
            exact rule_y (y_len e43 rfl) ⟨⟨int st.length, none, 0, 0, ()⟩, rfl, rfl, hS'⟩
          · intro a σ' w' rest hσ hdep hS'   -- 6: fieldAddr
            have e7 : σ' 7 = ptrAt (pb b7) 0 := (hσ 7 (notDstB rfl)).trans rfl
            exact rule_y (y_field e7 ⟨_, rfl⟩ (by decide)) ⟨⟨ptrAt (pb b7) 0, none, 0, 0, ()⟩, rfl, rfl, hS'⟩
          · intro a σ' w' rest hσ hdep hS'   -- 7: load
            have f6 := (hdep 6 _ rfl rfl).2
            have e45 := ((hdep 6 _ rfl rfl).1 45 rfl).trans f6
            exact rule_y (y_load e45 (Sep.sgv hS' 1 rfl) rfl) ⟨⟨.slice q st.length cc, none, 0, 0, ()⟩, rfl, rfl, hS'⟩
          · intro a σ' w' rest hσ hdep hS'   -- 8: call
            have f7 := (hdep 7 _ rfl rfl).2
            have e46 := ((hdep 7 _ rfl rfl).1 46 rfl).trans f7
            exact rule_y (y_len e46 rfl) ⟨⟨int st.length, none, 0, 0, ()⟩, rfl, rfl, hS'⟩
          · intro a σ' w' rest hσ hdep hS'   -- 9: slice
            have f2 := (hdep 2 _ rfl rfl).2
            have e41 := ((hdep 2 _ rfl rfl).1 41 rfl).trans f2
            have f5 := (hdep 5 _ rfl rfl).2
            have e44 := ((hdep 5 _ rfl rfl).1 44 rfl).trans f5
            have f8 := (hdep 8 _ rfl rfl).2
            have e47 := ((hdep 8 _ rfl rfl).1 47 rfl).trans f8
            exact rule_y (y_rslice3 e41 e44 e47 ⟨Nat.le_refl _, hle.1⟩) ⟨⟨.slice q st.length st.length, none, 0, 0, ()⟩, rfl, rfl, hS'⟩
          · intro a σ' w' rest hσ hdep hS'   -- 10: fieldAddr
            have e9 : σ' 9 = ptrAt (pb b9) 0 := (hσ 9 (notDstB rfl)).trans rfl
            exact rule_y (y_field e9 ⟨_, rfl⟩ (by decide)) ⟨⟨ptrAt (pb b9) 1, none, 0, 0, ()⟩, rfl, rfl, hS'⟩
          · intro a σ' w' rest hσ hdep hS'   -- 11: load
            have f10 := (hdep 10 _ rfl rfl).2
            have e49 := ((hdep 10 _ rfl rfl).1 49 rfl).trans f10
            exact rule_y (y_load e49 (Sep.sgv hS' 0 rfl) rfl) ⟨⟨str nm, none, 0, 0, ()⟩, rfl, rfl, hS'⟩
          · intro a σ' w' rest hσ hdep hS'   -- 12: buildSlice
            have f11 := (hdep 11 _ rfl rfl).2
            have e50 := ((hdep 11 _ rfl rfl).1 50 rfl).trans f11
            obtain ⟨b, w2, hy, hS2⟩ := y_bs1s (P := Tryd.prog) (t := 29) (d := some 51) (x := .tmp 50) hS' e50 rfl
            exact rule_y hy ⟨⟨.slice (pb b) 1 1, none, 0, b, ()⟩, rfl, rfl, hS2⟩
          · intro a σ' w' rest hσ hdep hS'   -- 13: call
            have f9 := (hdep 9 _ rfl rfl).2
            have e48 := ((hdep 9 _ rfl rfl).1 48 rfl).trans f9
            have f12 := (hdep 12 _ rfl rfl).2
            have e51 := ((hdep 12 _ rfl rfl).1 51 rfl).trans f12
            obtain ⟨b, c2, w2, hy, hS2⟩ := y_appf (P := Tryd.prog) (t := 29) (t' := 29) (ty := 29) (d := some 52) (x := .tmp 48) (y := .tmp 51) (n := st.length) (m := 1) (size := 1) hS' (hS'.sgv 3 rfl) (hS'.own 0 rfl).sg (by rw [strs_len, Nat.mul_one]) e48 e51 rfl (by simp [Go.Value.oneCell']) rfl (by decide) (by omega) (by omega)
            exact rule_y hy ⟨⟨.slice (pb b) (st.length + 1) c2, pb b, c2, 0, ()⟩, rfl, rfl, hS2.drop 1 rfl⟩
          · intro a σ' w' rest hσ hdep hS'   -- 14: call
            have f13 := (hdep 13 _ rfl rfl).2
            have e52 := ((hdep 13 _ rfl rfl).1 52 rfl).trans f13
            have hi := hS'.im 0 rfl
            have hsn := strs_snoc st nm
            rw [hsn] at hi
            have hc := (hS'.row 0 rfl).le_cap
            have e : st.length + 1 = (st ++ [nm]).length := by simp
            rw [e] at e52
            exact rule_pure (v := str (pthR st nm)) (join_pth st nm ▸ join_ok (st ++ [nm]) [47] _ _ (by rw [← e]; exact hc.1) (by rw [← e]; omega) (by decide) (by rw [join_pth]; exact hjl) w' hi) (fun w2 hf2 => ⟨⟨str (pthR st nm), none, 0, 0, ()⟩, rfl, rfl, (hS'.drop 0 rfl).grow hf2⟩) (am2 e52 rfl)
          · intro a σ' w' rest hσ hdep hS'   -- 15: buildSlice
            have f14 := (hdep 14 _ rfl rfl).2
            have e53 := ((hdep 14 _ rfl rfl).1 53 rfl).trans f14
            obtain ⟨b, w2, hy, hS2⟩ := y_bs1s (P := Tryd.prog) (t := 29) (d := some 54) (x := .tmp 53) hS' e53 rfl
            exact rule_y hy ⟨⟨.slice (pb b) 1 1, none, 0, b, ()⟩, rfl, rfl, hS2⟩
          · intro a σ' w' rest hσ hdep hS'   -- 16: call
            have f0 := (hdep 0 _ rfl rfl).2
            have e39 := ((hdep 0 _ rfl rfl).1 39 rfl).trans f0
            have f15 := (hdep 15 _ rfl rfl).2
            have e54 := ((hdep 15 _ rfl rfl).1 54 rfl).trans f15
            obtain ⟨p2, c2, w2, hy, hS2⟩ := y_app (P := Tryd.prog) (t := 29) (t' := 29) (ty := 29) (d := some 55) (x := .tmp 39) (y := .tmp 54) (n := 1) hS' 1 (hS'.own 0 rfl).sg rfl e39 e54 rfl (by simp [Go.Value.oneCell']) rfl (by decide) (by omega)
            exact rule_y hy ⟨⟨.slice p2 (out.length + 1) c2, p2, c2, 0, ()⟩, rfl, rfl, hS2.drop 0 rfl⟩
          · intro a σ' w' rest hσ hdep hS'   -- 17: assign
            have f16 := (hdep 16 _ rfl rfl).2
            have e55 := ((hdep 16 _ rfl rfl).1 55 rfl).trans f16
            exact rule_e [(55, _)] ⟨e55, trivial⟩ ⟨⟨.slice (a 16).p (out.length + 1) (a 16).c, none, 0, 0, ()⟩, rfl, rfl, hS'⟩
          · intro a σ' w' hσ hA' hS'
            have h17 := hA' 17 _ rfl
            have h16 := (hA' 16 _ rfl).2
            have e6 := (h17.1 6 rfl).trans h17.2
            rw [frameOf (σ := σ') [(6, .slice (a 16).p (out.length + 1) (a 16).c), (7, ptrAt (pb b7) 0), (18, .slice p ms.length c), (19, int ms.length), (20, int i)]
              ⟨e6, (hσ 7 (notDst rfl)).trans rfl, (hσ 18 (notDst rfl)).trans rfl, (hσ 19 (notDst rfl)).trans rfl, (hσ 20 (notDst rfl)).trans rfl, trivial⟩]
            replace hS : Sep w w' [pRow 1 (a 16).p (out.length + 1) (a 16).c (strs out ++ [str (pthR st nm)]), pOwn b9 [int 3, str nm, str tx, .slice mp es.length mc], pOwn b7 [.slice q st.length cc], pRow 1 q st.length cc (strs st)] := hS'
            rw [strs_snoc] at hS
            have hn2 : out.length + 1 = (out ++ [pthR st nm]).length := by simp
            rw [hn2] at hS ⊢
            rw [← hps1] at hS ⊢
            rw [← hst] at hS
            generalize (a 16).p = p' at *
            generalize (a 16).c = c2 at *
            refine sgo ?_
            exact ⟨(i + 1, p', c2, q, cc), ⟨rfl, rfl, rfl, rfl, rfl, trivial⟩, ⟨hlt, ((hS.front 3 rfl).front 3 rfl).drop 3 rfl⟩, (by (try dsimp only); omega)⟩
        · refine wcno ?_ (ht := decide_eq_false h3)
          rw [if_neg (by omega), List.append_nil] at hps1
          refine sgo ?_
          by_cases h2 : kd = 2
          · subst h2
            have hst : (lkI ms (i + 1)).stack = st.dropLast := by rw [hsuc]; rfl
            refine sgo ?_
            refine wlcall (pop_ok b7 q cc st (by omega) (hne rfl) w w10 _ (hS.front 2 rfl |>.front 2 rfl)) ?_
            rintro _ w11 hS
            rw [← hps1] at hS ⊢
            rw [← hst] at hS
            refine sgo ?_
            exact ⟨(i + 1, q6, c6, q, cc), ⟨rfl, rfl, rfl, rfl, rfl, trivial⟩, ⟨hlt, hS.drop 2 rfl⟩, (by (try dsimp only); omega)⟩
          · refine wcno ?_ (ht := decide_eq_false h2)
            have hst : (lkI ms (i + 1)).stack = st := by rw [hsuc]; simp [h1, h2]
            rw [← hps1] at hS ⊢
            rw [← hst] at hS
            refine sgo ?_
            exact ⟨(i + 1, q6, c6, q, cc), ⟨rfl, rfl, rfl, rfl, rfl, trivial⟩, ⟨hlt, hS.tail⟩, (by (try dsimp only); omega)⟩
    · obtain rfl : i = ms.length := by omega
      refine sgo ?_
      (first | refine fp1 (.inl rfl) rfl rfl ?_ | refine fp2 (.inl rfl) rfl rfl rfl ?_ | refine fp3 (.inl rfl) rfl rfl rfl rfl ?_ | refine fp0 (.inr rfl) rfl ?_ | refine fp0 (.inl rfl) rfl ?_ | refine fp1 (.inr rfl) rfl rfl ?_)
      refine ⟨q6, c6, by rw [hr]; rfl, hS.frm, hS0.seq (ds := [_]) (hS.drop 0 rfl |>.drop 0 rfl)⟩
  · refine wcyes ?_ (ht := by simpa using hr)
    simp only [if_neg hr]
    refine sgo ?_
    (first | refine fp1 (.inl rfl) rfl rfl ?_ | refine fp2 (.inl rfl) rfl rfl rfl ?_ | refine fp3 (.inl rfl) rfl rfl rfl rfl ?_ | refine fp0 (.inr rfl) rfl ?_ | refine fp0 (.inl rfl) rfl ?_ | refine fp1 (.inr rfl) rfl rfl ?_)
    exact ⟨none, 0, rfl, hS.frm, ((hS0.grow hS.frm)).push (Frm.refl _) (Row.nil _ 1) (by simp [pRow, rb])⟩
def slashes (st : List (List UInt8)) (j : Nat) : List UInt8 := (st.take j).flatMap fun n => n ++ [47]
theorem slashes_succ {st : List (List UInt8)} {j : Nat} {x : List UInt8} (h : st[j]? = some x) : slashes st (j + 1) = slashes st j ++ (x ++ [47]) := by
  unfold slashes
  rw [List.take_add_one, h, List.flatMap_append]; simp
theorem slashes_len (st : List (List UInt8)) (j : Nat) : (slashes st j).length ≤ nmw st := by
  have h := pth_len (st.take j) []
  rw [pthR, List.append_nil, List.length_nil, Nat.add_zero] at h
  rw [slashes, h]
  exact sum_take_le _ st j
theorem fm_take {α : Type} {f : α → List Value} {k : Nat} (h : ∀ x, (f x).length = k) (l : List α) (i : Nat) : (l.flatMap f).take (i * k) = (l.take i).flatMap f := by
  induction l generalizing i with
  | nil => simp
  | cons x l ih =>
    cases i with
    | zero => simp
    | succ i =>
      rw [List.flatMap_cons, List.take_succ_cons, List.flatMap_cons, ← ih i, List.take_append, h, List.take_of_length_le (by rw [h, Nat.succ_mul]; omega)]
      congr 2
      rw [Nat.succ_mul]; omega
theorem evs_take (ms : List EvM) (i : Nat) : evs (ms.take i) = (evs ms).take i := by rw [evs, evs, List.map_take]
theorem Evs.take {w : World} {p : Option Addr} {ms : List EvM} (h : Evs w p ms) (i : Nat) : Evs w p (ms.take i) := by
  refine ⟨?_, fun m hm => h.each m (List.mem_of_mem_take hm)⟩
  have := h.im.take (i * 4)
  rwa [fm_take EvM.len] at this
set_option maxHeartbeats 4000000 in
theorem refPaths_ok (ms : List EvM) (p : Option Addr) (c : Nat) (hc0 : ms.length ≤ c) (hw : evw ms ≤ 1048576) (w0 w : World) (cs : List Plot) (hS0 : Sep w0 w cs) (hE : Evs w p ms) :
    CallsR Tryd.prog 39 #[.slice p ms.length c] w fun v w' => ∃ q cc, v = .slice q (pathsI ms ms.length).length cc ∧ Frm w w' ∧ Sep w0 w' (pRow 1 q (pathsI ms ms.length).length cc (strs (pathsI ms ms.length)) :: cs) := by
  have hn : ms.length ≤ 1048576 := by
    have := sum_len (fun m : EvM => m.e.wt) ms (by intro m _; show 1 ≤ Ev.wt m.e; unfold Ev.wt; omega)
    unfold evw at hw; omega
  have hs : ∀ m ∈ ms, m.e.small := fun m hm => Ev.small_of (Nat.le_trans (sum_mem (fun m : EvM => m.e.wt) ms hm) hw)
  have hS := Sep.start w
  refine enter (l := [.slice p ms.length c]) Tryd.func39 rfl Tryd.ntmps39 (by kernel_rfl) rfl ?_
  replace hS := ((hS).push (c := pRow 1 none 0 0 (strs [])) (Frm.refl _) (Row.nil _ 1) (by simp [pRow, rb]))
  refine sgo ?_
  refine wcloop (X := Nat × Option Addr × Nat) (fun x => [(0, .slice p ms.length c), (3, .slice x.2.1 (pathsI ms x.1).length x.2.2), (9, .slice p ms.length c), (10, int ms.length), (11, int x.1)])
    (fun x wr => x.1 ≤ ms.length ∧ Sep w wr [pRow 1 x.2.1 (pathsI ms x.1).length x.2.2 (strs (pathsI ms x.1))])
    (fun x => ms.length - x.1) (0, none, 0) ⟨rfl, rfl, rfl, rfl, rfl, trivial⟩ ⟨Nat.zero_le _, hS⟩ ?_
  clear hS
  rintro ⟨i, q6, c6⟩ wr ρ ⟨hil, hS⟩
  dsimp only at *
  have hpl := pathsI_len ms i
  have hnm := nmw_bound hw i
  refine sgo ?_
  (show WC _ _ _ _ _ _ _; first | refine WC_dec rfl (fun hc => ?_) (fun hc => ?_) | refine WC_cond rfl (fun hc => ?_) (fun hc => ?_))
  · have hlt : i < ms.length := by omega
    have hIm := hE.im
    have hx : ms[i]? = some ms[i] := List.getElem?_eq_getElem hlt
    have hmem : ms[i] ∈ ms := List.getElem_mem hlt
    have hseg := fm_seg EvM.len ms hx
    have hfl := fm_len EvM.len ms
    have hsm := hs _ hmem
    have hps : ∃ a, p = some a := hE.im.sg.some (by omega)
    have hps1 := pathsI_succ hx
    have hti : (ms.take i).length = i := by rw [List.length_take]; omega
    have hat := fun w' (cs' : List Plot) (h : Sep w w' cs') => at_ok (ms.take i) p c (by omega) (fun m hm => hs m (List.mem_of_mem_take hm)) w w' cs' h ((hE.frm h.frm).take i)
    rw [evs_take, hti] at hat
    rw [show lkR ((evs ms).take i) = lkI ms i from rfl] at hat
    have hbk := lk_bound ((evs ms).take i)
    rw [show lkR ((evs ms).take i) = lkI ms i from rfl, List.length_take] at hbk
    generalize ms[i] = m at *
    generalize lkI ms i = k at *
    generalize pathsI ms i = out at *
    clear hc
    obtain ⟨⟨kd, nm, tx, es⟩, mp, mc⟩ := m
    dsimp only at hps1 hsm
    have hnl : nm.length ≤ 1048576 := hsm.name
    refine sgo ?_
    rw [hseg]
    refine salloc hS fun b5 w9 hS => ?_
    refine sgo ?_
    refine ssta (vs := [int kd, str nm, str tx, .slice mp es.length mc]) hS 0 fun w10 hS => ?_
    replace hS : Sep w w10 [pOwn b5 [int kd, str nm, str tx, .slice mp es.length mc], pRow 1 q6 out.length c6 (strs out)] := hS
    refine sgo ?_
    by_cases hk : kd = 1 ∨ kd = 3
    · rw [if_pos hk] at hps1
      refine wcno ?_ (ht := by rcases hk with rfl | rfl <;> simp [pkb])
      refine sgo ?_
      refine wlcall (hat w10 _ hS) ?_
      rintro _ w11 ⟨q4, c4, rfl, -, hS⟩
      refine sgo ?_
      refine wl ?_ (y_fldv rfl rfl)
      refine sgo ?_
      refine wcloop (X := Nat) (fun j => [(0, .slice p ms.length c), (3, .slice q6 out.length c6), (5, ptrAt (pb b5) 0), (6, str (slashes k.stack j)), (9, .slice p ms.length c), (10, int ms.length), (11, int i), (28, .slice q4 k.stack.length c4), (29, int k.stack.length), (30, int j)])
        (fun j wr => j ≤ k.stack.length ∧ wr = w11) (fun j => k.stack.length - j) 0 ⟨rfl, rfl, rfl, rfl, rfl, rfl, rfl, rfl, rfl, rfl, trivial⟩ ⟨Nat.zero_le _, rfl⟩ ?_
      rintro j w11 ρ2 ⟨hjl, rfl⟩
      have hsl := slashes_len k.stack j
      have hstl := strs_len k.stack
      refine sgo ?_
      (show WC _ _ _ _ _ _ _; first | refine WC_dec rfl (fun hc => ?_) (fun hc => ?_) | refine WC_cond rfl (fun hc => ?_) (fun hc => ?_))
      · have hjt : j < k.stack.length := by omega
        have hxj : k.stack[j]? = some k.stack[j] := List.getElem?_eq_getElem hjt
        have hgx := strs_at hxj
        have hpq : ∃ a, q4 = some a := (hS.im 0 rfl).sg.some (by omega)
        have hsu := slashes_succ hxj
        have hsl2 := slashes_len k.stack (j + 1)
        generalize k.stack[j] = x at *
        rw [hsu, List.length_append, List.length_append] at hsl2
        clear hc
        refine sgo ?_
        refine ⟨j + 1, ⟨rfl, rfl, rfl, ?_, rfl, rfl, rfl, rfl, rfl, rfl, trivial⟩, ⟨hjt, rfl⟩, (by (try dsimp only); omega)⟩
        show str _ = str _
        rw [hsu]
      · obtain rfl : j = k.stack.length := by omega
        have hfin : slashes k.stack k.stack.length ++ nm = pthR k.stack nm := by rw [slashes, List.take_length, pthR]
        refine sgo ?_
        rw [hfin]
        refine sb1s hS fun b2 w13 hS => ?_
        refine sgo ?_
        refine sapp hS 3 (hS.own 0 rfl).sg fun p' c2 w14 hS => ?_
        rw [strs_snoc] at hS
        have hn2 : out.length + 1 = (out ++ [pthR k.stack nm]).length := by simp
        rw [hn2] at hS ⊢
        rw [← hps1] at hS ⊢
        refine sgo ?_
        exact ⟨(i + 1, p', c2), ⟨rfl, rfl, rfl, rfl, rfl, trivial⟩, ⟨hlt, ((hS.drop 0 rfl).drop 0 rfl).drop 0 rfl⟩, (by (try dsimp only); omega)⟩
    · rw [if_neg hk, List.append_nil] at hps1
      refine wcyes ?_ (ht := by simp [pkb]; omega)
      refine sgo ?_
      refine ⟨(i + 1, q6, c6), ⟨rfl, ?_, rfl, rfl, rfl, trivial⟩, ⟨hlt, ?_⟩, (by (try dsimp only); omega)⟩
      · dsimp only; rw [hps1]; rfl
      · dsimp only; rw [hps1]; exact hS.tail
  · obtain rfl : i = ms.length := by omega
    refine sgo ?_
    (first | refine fp1 (.inl rfl) rfl rfl ?_ | refine fp2 (.inl rfl) rfl rfl rfl ?_ | refine fp3 (.inl rfl) rfl rfl rfl rfl ?_ | refine fp0 (.inr rfl) rfl ?_ | refine fp0 (.inl rfl) rfl ?_ | refine fp1 (.inr rfl) rfl rfl ?_)
    exact ⟨q6, c6, rfl, hS.frm, hS0.seq (ds := [_]) hS⟩
end Go.Proofs.YthgbpgjpnaanlaaDoor

/-
  sievelaw18: EventWraps.
-/
set_option linter.unusedSimpArgs false
set_option linter.unusedVariables false
set_option linter.unnecessarySimpa false
namespace Go.Proofs.YthgbpgjpnaanlaaDoor
open Go Go.Sv Go.RowKit

/-- what is known in the region that puts the wanted events together -/
structure WrD where
  v : Value
  b : Nat
  q : Option Addr
  c : Nat
  ns : List EvM
def wrP (n : List UInt8) (es : List At) (pa : Option Addr) (ca : Nat) (ms : List EvM) (p : Option Addr) (c : Nat) : Plan WrD where
  val _ d := d.v
  pl k d := match k with
    | 1 => [pOwn d.b (EvM.cells ⟨firstE n es, pa, ca⟩)]
    | 3 => [pRow 4 d.q d.ns.length d.c (d.ns.flatMap EvM.cells), pMany (d.ns.map EvM.row)]
    | 4 => [pRow 4 d.q (1 + d.ns.length) d.c (EvM.cells ⟨firstE n es, pa, ca⟩ ++ d.ns.flatMap EvM.cells), pMany (d.ns.map EvM.row)]
    | 7 => [pOwn d.b (closeM n).cells]
    | 8 => [pRow 4 d.q (1 + d.ns.length + 1) d.c (EvM.cells ⟨firstE n es, pa, ca⟩ ++ d.ns.flatMap EvM.cells ++ (closeM n).cells), pMany (d.ns.map EvM.row)]
    | 9 => [pRow 4 d.q (1 + d.ns.length + 1) d.c (EvM.cells ⟨firstE n es, pa, ca⟩ ++ d.ns.flatMap EvM.cells ++ (closeM n).cells), pMany (d.ns.map EvM.row)]
    | _ => []
  con k := match k with
    | 1 => some 4
    | 3 => some 4
    | 4 => some 8
    | 7 => some 8
    | 8 => some 9
    | _ => none
  fact k a := match k with
    | 0 => (a 0).v = .agg ⟨EvM.cells ⟨firstE n es, pa, ca⟩⟩
    | 1 => (a 1).v = .slice (pb (a 1).b) 1 1
    | 2 => (a 2).v = .slice p ms.length c
    | 3 => (a 3).v = .slice (a 3).q (a 3).ns.length (a 3).c ∧ evs (a 3).ns = evs ms
    | 4 => (a 4).v = .slice (a 4).q (1 + (a 4).ns.length) (a 4).c ∧ evs (a 4).ns = evs ms
    | 5 => (a 5).v = str n
    | 6 => (a 6).v = .agg ⟨(closeM n).cells⟩
    | 7 => (a 7).v = .slice (pb (a 7).b) 1 1
    | 8 => (a 8).v = .slice (a 8).q (1 + (a 8).ns.length + 1) (a 8).c ∧ evs (a 8).ns = evs ms
    | 9 => (a 9).v = .slice (a 9).q (1 + (a 9).ns.length + 1) (a 9).c ∧ evs (a 9).ns = evs ms
    | _ => True
set_option maxHeartbeats 4000000 in
theorem eventWraps_ok (n : List UInt8) (es : List At) (ms : List EvM) (pa p : Option Addr) (ca c : Nat) (hf : (firstE n es).small) (hw : evw ms ≤ 1048573) (w : World) (hA : Asc w) (hi : Im [] w pa (es.flatMap At.cells)) (hE : Evs w p ms) :
    PureC Tryd.prog 6 #[str n, .slice pa es.length ca, .slice p ms.length c] w (.bool true) := by
  have hn : ms.length ≤ 1048573 := by
    have := sum_len (fun m : EvM => m.e.wt) ms (by intro m _; show 1 ≤ Ev.wt m.e; unfold Ev.wt; omega)
    unfold evw at hw; omega
  have hs : ∀ m ∈ ms, m.e.small := fun m hm => Ev.small_of (Nat.le_trans (sum_mem (fun m : EvM => m.e.wt) ms hm) (Nat.le_trans hw (by decide)))
  have hS := Sep.start w
  refine enter (l := [str n, .slice pa es.length ca, .slice p ms.length c]) Tryd.func6 rfl Tryd.ntmps6 (by kernel_rfl) rfl ?_
  refine sgo ?_
  refine wlcall (evOwn_ok ms p c (by omega) hs w w [] hS hE) ?_
  rintro _ w1 ⟨q, cc, ns, rfl, hev, -, hS⟩
  have hnl : ns.length = ms.length := by rw [← evs_len, hev, evs_len]
  have hns : ∀ m ∈ ns, m.e.small := fun m hm => by
    have : m.e ∈ evs ms := by rw [← hev]; exact List.mem_map_of_mem hm
    obtain ⟨m', hm', e⟩ := List.mem_map.1 this
    rw [← e]; exact hs m' hm'
  refine sgo ?_
  refine wlbuild ?_
  refine salloc hS fun b8 w2 hS => ?_
  refine sgo ?_
  refine ssta (vs := [int 1, str n, str [], .slice pa es.length ca]) hS 0 fun w3 hS => ?_
  replace hS : Sep w w3 [pOwn b8 [int 1, str n, str [], .slice pa es.length ca], pRow 4 q ns.length cc (ns.flatMap EvM.cells), pMany (ns.map EvM.row)] := hS
  refine sgo ?_
  refine wlcall (wrap_ok n es ns pa q ca cc hf (by omega) hns w w3 _ hS (hA.frm hS.frm) (hi.sep hS) (Sep.evs hS 1 2 rfl rfl)) ?_
  rintro _ w4 ⟨q1, c1, xs, rfl, hx1, -, hS⟩
  refine sgo ?_
  refine wlcall (wrap_ok n es ns pa q ca cc hf (by omega) hns w w4 _ hS (hA.frm hS.frm) (hi.sep hS) (Sep.evs hS 3 4 rfl rfl)) ?_
  rintro _ w5 ⟨q2, c2, ys, rfl, hx2, -, hS⟩
  rw [hev] at hx1 hx2 ⊢
  refine sgo ?_
  refine wlcall (at_ok ms p c (by omega) hs w w5 _ hS (hE.frm hS.frm)) ?_
  rintro _ w6 ⟨q4, c4, rfl, -, hS⟩
  generalize hk : lkR (evs ms) = k at *
  refine sgo ?_
  refine salloc hS fun b13 w7 hS => ?_
  refine sgo ?_
  refine ssta (vs := [.slice q4 k.stack.length c4, int k.most, int k.at_, int k.err, int k.good]) hS 0 fun w8 hS => ?_
  replace hS : Sep w w8 [pOwn b13 [.slice q4 k.stack.length c4, int k.most, int k.at_, int k.err, int k.good], pRow 1 q4 k.stack.length c4 (strs k.stack), pRow 4 q2 ys.length c2 (ys.flatMap EvM.cells), pMany (ys.map EvM.row), pRow 4 q1 xs.length c1 (xs.flatMap EvM.cells), pMany (xs.map EvM.row),
    pOwn b8 [int 1, str n, str [], .slice pa es.length ca], pRow 4 q ns.length cc (ns.flatMap EvM.cells), pMany (ns.map EvM.row)] := hS
  replace hS := hS.front 6 rfl
  have hCk : wrapC (firstE n es) k = if evR (firstE n es) = false then 180 else if k.err = 0 ∧ 0 < k.stack.length then 181 else k.err := by
    unfold wrapC
    by_cases h1 : evR (firstE n es) = false
    · rw [if_pos h1, if_pos h1]
    · rw [if_neg h1, if_neg h1]
      by_cases h2 : k.err = 0
      · by_cases h3 : k.stack = []
        · simp [h2, h3]
        · have := List.length_pos_iff.2 h3
          simp [h2, h3, this]
      · simp [h2]
  generalize hCg : wrapC (firstE n es) k = C at *
  refine sgo ?_
  refine wcutt (X := Unit) (fun _ => [(0, str n), (1, .slice pa es.length ca), (2, .slice p ms.length c), (7, .slice q ns.length cc), (8, ptrAt (pb b8) 0), (9, .slice q1 xs.length c1), (10, int C), (11, .slice q2 ys.length c2), (13, ptrAt (pb b13) 0), (14, int (if k.err = 0 ∧ 0 < k.stack.length then 181 else k.err))])
    (fun _ w' => w' = w8) ?_ ?_
  · (show WC _ _ _ _ _ _ _; first | refine WC_dec rfl (fun hc => ?_) (fun hc => ?_) | refine WC_cond rfl (fun hc => ?_) (fun hc => ?_))
    · have hc' : k.err = 0 ∧ 0 < k.stack.length := by
        simp only [pkb_and, Bool.and_eq_true, decide_eq_true_eq] at hc
        exact ⟨hc.1, by omega⟩
      rw [if_pos hc']
      refine sgo ?_
      exact ⟨(), ⟨rfl, rfl, rfl, rfl, rfl, rfl, rfl, rfl, rfl, rfl, trivial⟩, rfl⟩
    · have hc' : ¬ (k.err = 0 ∧ 0 < k.stack.length) := by
        simp only [pkb_and, Bool.and_eq_false_iff, decide_eq_false_iff_not] at hc
        omega
      rw [if_neg hc']
      refine sgo ?_
      exact ⟨(), ⟨rfl, rfl, rfl, rfl, rfl, rfl, rfl, rfl, rfl, rfl, trivial⟩, rfl⟩
  rintro _ w9 ρ rfl
  refine sgo ?_
  refine wlpure (refEvCheck_ok (firstE n es) pa ca hf w9 (hi.sep hS)) fun w10 hf10 => ?_
  replace hS := hS.grow hf10
  refine sgo ?_
  refine wcutt (X := Unit) (fun _ => [(0, str n), (1, .slice pa es.length ca), (2, .slice p ms.length c), (7, .slice q ns.length cc), (8, ptrAt (pb b8) 0), (9, .slice q1 xs.length c1), (10, int C), (11, .slice q2 ys.length c2), (13, ptrAt (pb b13) 0), (14, int C)])
    (fun _ w' => w' = w10) ?_ ?_
  · cases he : evR (firstE n es) with
    | false =>
      rw [if_pos he] at hCk
      subst hCk
      refine sgo ?_
      exact ⟨(), ⟨rfl, rfl, rfl, rfl, rfl, rfl, rfl, rfl, rfl, rfl, trivial⟩, rfl⟩
    | true =>
      rw [if_neg (by simp [he])] at hCk
      rw [← hCk]
      refine sgo ?_
      exact ⟨(), ⟨rfl, rfl, rfl, rfl, rfl, rfl, rfl, rfl, rfl, rfl, trivial⟩, rfl⟩
  rintro _ w11 ρ2 rfl
  refine sgo ?_
  refine wlpure (num18_ok C _) fun w12 hf12 => ?_
  replace hS := hS.grow hf12
  refine sgo ?_
  refine wcno ?_ (ht := by simp)
  refine sgo ?_
  by_cases h0 : C = 0
  · refine wcno ?_ (ht := by simpa using h0)
    rw [wrapE, hk, hCg, if_pos h0] at hx1 hx2
    clear hCk hCg
    have hA0 := hA
    clear hA
    refine sgo ?_
    refine wcplan (wrP n es pa ca ms p c) ⟨.nilIface, 0, none, 0, []⟩ hS (fun j oj a a' hj he _ h => ?_) ⟨?_, ?_, ?_, ?_, ?_, ?_, ?_, ?_, ?_, ?_, trivial⟩ ?_
    · have hjl : j < 10 := (List.getElem?_eq_some_iff.1 hj).1
      match j, hjl with
      | 0, _ | 1, _ | 2, _ | 3, _ | 4, _ | 5, _ | 6, _ | 7, _ | 8, _ | 9, _ => simp only [wrP] at h ⊢; rw [← he]; exact h
    · intro a σ' w' rest hσ hdep hS'
      have e8 : σ' 8 = ptrAt (pb b8) 0 := (hσ 8 (notDst rfl)).trans rfl
      exact rule_y (y_loada e8 (Sep.sgv hS' 0 rfl) (Nat.le_refl 4) ⟨_, rfl⟩) ⟨⟨.agg ⟨EvM.cells ⟨firstE n es, pa, ca⟩⟩, 0, none, 0, []⟩, rfl, rfl, hS'⟩
    · intro a σ' w' rest hσ hdep hS'
      have h0 := hdep 0 _ rfl rfl
      have e62 := (h0.1 62 rfl).trans h0.2
      obtain ⟨b, w2, hy, hS2⟩ := y_bs1 (P := Tryd.prog) (t := 25) (d := some 63) (x := .tmp 62) (vs := EvM.cells ⟨firstE n es, pa, ca⟩) (size := 4) hS' e62 rfl rfl (by decide) (by decide)
      exact rule_y hy ⟨⟨.slice (pb b) 1 1, b, none, 0, []⟩, rfl, rfl, hS2⟩
    · intro a σ' w' rest hσ hdep hS'
      have e2 : σ' 2 = .slice p ms.length c := (hσ 2 (notDst rfl)).trans rfl
      exact rule_y (Y.val (by simp only [execOp, evl, e2]; rfl)) ⟨⟨.slice p ms.length c, 0, none, 0, []⟩, rfl, rfl, hS'⟩
    · intro a σ' w' rest hσ hdep hS'
      have h2 := hdep 2 _ rfl rfl
      have e64 := (h2.1 64 rfl).trans h2.2
      refine rule_call (vals := [.slice p ms.length c]) (evOwn_ok ms p c (by omega) hs w w' _ hS' (hE.frm hS'.frm)) (fun v w2 hR => ?_) (am1 e64)
      obtain ⟨q3, c3, ns3, rfl, hev3, -, hS2⟩ := hR
      exact ⟨⟨.slice q3 ns3.length c3, 0, q3, c3, ns3⟩, rfl, ⟨rfl, hev3⟩, hS2⟩
    · intro a σ' w' rest hσ hdep hS'
      have h1 := hdep 1 _ rfl rfl
      have h3 := hdep 3 _ rfl rfl
      have e63 := (h1.1 63 rfl).trans h1.2
      have e65 := (h3.1 65 rfl).trans h3.2.1
      have hl3 : (a 3).ns.length = ms.length := by rw [← evs_len, h3.2.2, evs_len]
      have hS1 : Sep w w' (pOwn (a 1).b (EvM.cells ⟨firstE n es, pa, ca⟩) :: pRow 4 (a 3).q (a 3).ns.length (a 3).c ((a 3).ns.flatMap EvM.cells) :: pMany ((a 3).ns.map EvM.row) :: (_ ++ rest)) := hS'
      have hS2 := hS1.turn 0 (c' := pRow 4 (pb (a 1).b) 1 1 (EvM.cells ⟨firstE n es, pa, ca⟩)) rfl (fun h => Row.of_own (n := 1) h rfl (by decide)) (fun x hx => hx)
      obtain ⟨q', c', w2, hy, hS3⟩ := y_app (P := Tryd.prog) (t := 25) (t' := 25) (ty := 25) (d := some 66) (x := .tmp 63) (y := .tmp 65) hS2 0 (hS2.row 1 rfl).sg rfl e63 e65 (fm_len EvM.len _) (by intro u hu; obtain ⟨m, _, hm⟩ := List.mem_flatMap.1 hu; exact ev_one _ _ _ u hm) rfl (by decide) (by omega)
      exact rule_y hy ⟨⟨.slice q' (1 + (a 3).ns.length) c', 0, q', c', (a 3).ns⟩, rfl, ⟨rfl, h3.2.2⟩, hS3.drop 1 rfl⟩
    · intro a σ' w' rest hσ hdep hS'
      have e0 : σ' 0 = str n := (hσ 0 (notDst rfl)).trans rfl
      exact rule_y (Y.val (by simp only [execOp, evl, e0]; rfl)) ⟨⟨str n, 0, none, 0, []⟩, rfl, rfl, hS'⟩
    · intro a σ' w' rest hσ hdep hS'
      have h5 := hdep 5 _ rfl rfl
      have e67 := (h5.1 67 rfl).trans h5.2
      exact rule_y (y_build (cells := (closeM n).cells) (by rw [bm2 (x := .const (int 2)) (y := .tmp 67) (v := int 2) rfl e67]; simp [fillL, setSeg, Value.cells]; rfl)) ⟨⟨.agg ⟨(closeM n).cells⟩, 0, none, 0, []⟩, rfl, rfl, hS'⟩
    · intro a σ' w' rest hσ hdep hS'
      have h6 := hdep 6 _ rfl rfl
      have e68 := (h6.1 68 rfl).trans h6.2
      obtain ⟨b, w2, hy, hS2⟩ := y_bs1 (P := Tryd.prog) (t := 25) (d := some 69) (x := .tmp 68) (vs := (closeM n).cells) (size := 4) hS' e68 rfl rfl (by decide) (by decide)
      exact rule_y hy ⟨⟨.slice (pb b) 1 1, b, none, 0, []⟩, rfl, rfl, hS2⟩
    · intro a σ' w' rest hσ hdep hS'
      have h4 := hdep 4 _ rfl rfl
      have h7 := hdep 7 _ rfl rfl
      have e66 := (h4.1 66 rfl).trans h4.2.1
      have e69 := (h7.1 69 rfl).trans h7.2
      have hl4 : (a 4).ns.length = ms.length := by rw [← evs_len, h4.2.2, evs_len]
      have hS1 : Sep w w' (pRow 4 (a 4).q (1 + (a 4).ns.length) (a 4).c (EvM.cells ⟨firstE n es, pa, ca⟩ ++ (a 4).ns.flatMap EvM.cells) :: pMany ((a 4).ns.map EvM.row) :: pOwn (a 7).b (closeM n).cells :: (_ ++ rest)) := hS'
      obtain ⟨q', c', w2, hy, hS3⟩ := y_app (P := Tryd.prog) (t := 25) (t' := 25) (ty := 25) (d := some 70) (x := .tmp 66) (y := .tmp 69) (n := 1) hS1 0 (hS1.own 2 rfl).sg rfl e66 e69 rfl (ev_one _ _ _) rfl (by decide) (by omega)
      exact rule_y hy ⟨⟨.slice q' (1 + (a 4).ns.length + 1) c', 0, q', c', (a 4).ns⟩, rfl, ⟨rfl, h4.2.2⟩, hS3.drop 2 rfl⟩
    · intro a σ' w' rest hσ hdep hS'
      have h8 := hdep 8 _ rfl rfl
      have e70 := (h8.1 70 rfl).trans h8.2.1
      exact rule_y (Y.val (by simp only [execOp, evl, e70]; rfl)) ⟨⟨.slice (a 8).q (1 + (a 8).ns.length + 1) (a 8).c, 0, (a 8).q, (a 8).c, (a 8).ns⟩, rfl, ⟨rfl, h8.2.2⟩, hS'⟩
    · intro a σ' w' hσ hA' hS'
      have h9 := hA' 9 _ rfl
      have e15 := (h9.1 15 rfl).trans h9.2.1
      have hev9 := h9.2.2
      have hl9 : (a 9).ns.length = ms.length := by rw [← evs_len, hev9, evs_len]
      rw [frameOf (σ := σ') [(2, .slice p ms.length c), (7, .slice q ns.length cc), (9, .slice q1 xs.length c1), (11, .slice q2 ys.length c2), (15, .slice (a 9).q (1 + (a 9).ns.length + 1) (a 9).c)]
        ⟨(hσ 2 (notDst rfl)).trans rfl, (hσ 7 (notDst rfl)).trans rfl, (hσ 9 (notDst rfl)).trans rfl, (hσ 11 (notDst rfl)).trans rfl, e15, trivial⟩]
      replace hS : Sep w w' (pRow 4 (a 9).q (1 + (a 9).ns.length + 1) (a 9).c (EvM.cells ⟨firstE n es, pa, ca⟩ ++ (a 9).ns.flatMap EvM.cells ++ (closeM n).cells) :: pMany ((a 9).ns.map EvM.row) :: pOwn b8 [int 1, str n, str [], .slice pa es.length ca] :: pOwn b13 [.slice q4 k.stack.length c4, int k.most, int k.at_, int k.err, int k.good] :: pRow 1 q4 k.stack.length c4 (strs k.stack) :: pRow 4 q2 ys.length c2 (ys.flatMap EvM.cells) :: pMany (ys.map EvM.row) :: pRow 4 q1 xs.length c1 (xs.flatMap EvM.cells) :: pMany (xs.map EvM.row) ::
        pRow 4 q ns.length cc (ns.flatMap EvM.cells) :: pMany (ns.map EvM.row) :: []) := hS'
      have hfr := hS.frm
      clear hA' e15 h9 hS'
      generalize (a 9).q = q9 at *
      generalize (a 9).c = c9 at *
      generalize (a 9).ns = ns9 at *
      -- the wanted events, as they lie
      let full : List EvM := ⟨firstE n es, pa, ca⟩ :: ns9 ++ [closeM n]
      have hfl : full.length = 1 + ns9.length + 1 := by simp [full]; omega
      have hfe : evs full = firstE n es :: evs ms ++ [closeE n] := by simp only [full]; rw [← hev9]; simp [evs, closeM]
      have hsm : ∀ e ∈ firstE n es :: evs ms ++ [closeE n], e.small := by
        intro e he
        simp only [List.cons_append, List.mem_cons, List.mem_append, List.not_mem_nil, or_false] at he
        rcases he with rfl | he | rfl
        · exact hf
        · obtain ⟨m, hm, rfl⟩ := List.mem_map.1 he; exact hs m hm
        · exact ⟨hf.name, by simp [closeE], by simp [closeE], by simp [closeE]⟩
      have hsmall : ∀ l : List EvM, evs l = firstE n es :: evs ms ++ [closeE n] → ∀ m ∈ l, m.e.small := fun l hl m hm => hsm _ (by rw [← hl]; exact List.mem_map_of_mem hm)
      have hlen : ∀ l : List EvM, evs l = firstE n es :: evs ms ++ [closeE n] → l.length ≤ 1048577 := fun l hl => by rw [← evs_len, hl]; simp [evs_len]; omega
      have hEv : ∀ w2 cs2, Sep w w2 (pRow 4 q9 (1 + ns9.length + 1) c9 (EvM.cells ⟨firstE n es, pa, ca⟩ ++ ns9.flatMap EvM.cells ++ (closeM n).cells) :: pMany (ns9.map EvM.row) :: cs2) → Evs w2 q9 full := by
        intro w2 cs2 h
        refine ⟨?_, fun m hm => ?_⟩
        · have := h.im 0 rfl
          simpa [full, List.flatMap_append, List.flatMap_cons] using this
        · simp only [full, List.cons_append, List.mem_cons, List.mem_append, List.not_mem_nil, or_false] at hm
          rcases hm with rfl | hm | rfl
          · exact hi.sep h
          · exact RowD.im (h.many 1 rfl m.row (List.mem_map_of_mem hm))
          · exact Im.nil _ _ _
      rw [← hfl]
      refine sgo ?_
      refine wlpure (evEqual_ok xs full q1 q9 c1 c9 (hlen xs hx1) (hlen full hfe) (hsmall xs hx1) (hsmall full hfe) w' (Sep.evs hS 7 8 rfl rfl) (hEv _ _ hS)) fun w13 hf13 => ?_
      replace hS := hS.grow hf13
      rw [decide_eq_true (hx1.trans hfe.symm)]
      refine sgo ?_
      refine wlcall (evSpoil_ok xs q1 c1 (by have := hlen xs hx1; omega) (hsmall xs hx1) w w13 _ (((hS.front 8 rfl).front 8 rfl))) ?_
      rintro _ w14 hS
      refine sgo ?_
      refine wlpure (evEqual_ok ys full q2 q9 c2 c9 (hlen ys hx2) (hlen full hfe) (hsmall ys hx2) (hsmall full hfe) w14 (Sep.evs hS 5 6 rfl rfl) (hEv _ _ hS)) fun w15 hf15 => ?_
      replace hS := hS.grow hf15
      rw [decide_eq_true (hx2.trans hfe.symm)]
      refine sgo ?_
      refine wlcallgp (vals := [.slice q ns.length cc, .slice p ms.length c]) (fun _ => evEqual_ok ns ms q p cc c (by omega) (by omega) hns hs w15 (Sep.evs hS 7 8 rfl rfl) (hE.frm hS.frm)) fun w16 hf16 => ?_
      replace hS := hS.grow hf16
      rw [decide_eq_true hev]
      refine sgo ?_
      refine wlcallgp (vals := []) (fun _ => awake18_ok _ (hA0.frm hS.frm)) (fun w17 hf17 => ?_) (ha := fun _ => rfl)
      replace hS := hS.grow hf17
      refine sgo ?_
      (first | refine fp1 (.inl rfl) rfl rfl ?_ | refine fp2 (.inl rfl) rfl rfl rfl ?_ | refine fp3 (.inl rfl) rfl rfl rfl rfl ?_ | refine fp0 (.inr rfl) rfl ?_ | refine fp0 (.inl rfl) rfl ?_ | refine fp1 (.inr rfl) rfl rfl ?_); refine ⟨?_, by (first | exact Frm.refl _ | assumption | exact Go.Sv.Sep.frm (by assumption) | (refine Frm.trans ?_ (by assumption); first | exact Frm.refl _ | assumption))⟩; (try simp only [realB, rv_true, Nat.reduceBEq, cond_true, cond_false, entG, real_lif, updGL])
      simp [pkb]
  · refine wcyes ?_ (ht := by simpa using h0)
    have hxs : xs = [] := by
      rw [wrapE, hk, hCg, if_neg h0] at hx1
      exact List.map_eq_nil_iff.1 hx1
    subst hxs
    refine sgo ?_
    refine wlcallgp (vals := []) (fun _ => awake18_ok _ (hA.frm hS.frm)) (fun w13 hf13 => ?_) (ha := fun _ => rfl)
    replace hS := hS.grow hf13
    refine sgo ?_
    (first | refine fp1 (.inl rfl) rfl rfl ?_ | refine fp2 (.inl rfl) rfl rfl rfl ?_ | refine fp3 (.inl rfl) rfl rfl rfl rfl ?_ | refine fp0 (.inr rfl) rfl ?_ | refine fp0 (.inl rfl) rfl ?_ | refine fp1 (.inr rfl) rfl rfl ?_); refine ⟨?_, by (first | exact Frm.refl _ | assumption | exact Go.Sv.Sep.frm (by assumption) | (refine Frm.trans ?_ (by assumption); first | exact Frm.refl _ | assumption))⟩; (try simp only [realB, rv_true, Nat.reduceBEq, cond_true, cond_false, entG, real_lif, updGL])
    simp [pkb]
end Go.Proofs.YthgbpgjpnaanlaaDoor

/-
  sievelaw18: EventTrims.
-/
set_option linter.unusedSimpArgs false
set_option linter.unusedVariables false
set_option linter.unnecessarySimpa false
namespace Go.Sv
open Go Go.RowKit
/-- a guarded operation whose guard says no -/
theorem wlskipg {P : Program} {n : Nat} {ds : Ctx} {ops : Array Oper} {Q : Exit → Ctx → Env → World → Prop} {rest : List Oper} {σ : GE} {w : World} {d : Nat} {op : Op} {ty : TypeId} {pos : String} {af : Array Edge} {j dj : Nat} {want b c : Bool} (v : Value)
    (h : WL P n ds ops Q rest (real (updG σ d ⟨v, false⟩)) w)
    (hj : (ops[j]?).bind (·.dst) = some dj := by rfl) (hσ : σ dj = ⟨.bool c, b⟩ := by rfl) (hgt : (b && (c == want)) = false) :
    WL P n ds ops Q (⟨some d, op, ty, pos, af, some (j, want)⟩ :: rest) (real σ) w := by
  have hw := wanted_real (ops := ops) (o := ⟨some d, op, ty, pos, af, some (j, want)⟩) rfl hj hσ
  rw [hgt] at hw
  refine WL_skip hw ?_
  rw [← real_upd] at h
  exact h
end Go.Sv
namespace Go.Proofs.YthgbpgjpnaanlaaDoor
open Go Go.Sv Go.RowKit

theorem evs_get {ms ns : List EvM} (h : evs ms = evs ns) {i : Nat} {m : EvM} (hx : ms[i]? = some m) : ∃ n, ns[i]? = some n ∧ n.e = m.e := by
  have h1 := evs_at hx
  rw [h] at h1
  unfold evs at h1
  rw [List.getElem?_map] at h1
  cases hn : ns[i]? with
  | none => rw [hn] at h1; cases h1
  | some n => rw [hn] at h1; exact ⟨n, rfl, by simpa using h1⟩
theorem trI_evs (d : Int) {ms ns : List EvM} (h : evs ms = evs ns) (i : Nat) (hi : i ≤ ms.length) : (trI d ms i).1 = (trI d ns i).1 ∧ evs (trI d ms i).2 = evs (trI d ns i).2 := by
  induction i with
  | zero => exact ⟨rfl, rfl⟩
  | succ i ih =>
    obtain ⟨h1, h2⟩ := ih (by omega)
    have hx : ms[i]? = some ms[i] := List.getElem?_eq_getElem (by omega)
    obtain ⟨n, hn, he⟩ := evs_get h hx
    have h3 := tr_evs d ns i hn h2 (n := ms[i]) he.symm
    rw [← h1, he] at h3
    rw [trI_succ hx]
    refine ⟨?_, h3⟩
    rw [trI_succ hn, h1, he]
theorem trM_evs (d : Int) {ms ns : List EvM} (h : evs ms = evs ns) : evs (trM d ms).2 = evs (trM d ns).2 := by
  have h1 := (trI_evs d h ms.length (Nat.le_refl _)).2
  have hl : ms.length = ns.length := by rw [← evs_len, h, evs_len]
  rw [trI_all] at h1
  rw [hl, trI_all] at h1
  exact h1
theorem pathsI_evs {ms ns : List EvM} (h : evs ms = evs ns) (i : Nat) (hi : i ≤ ms.length) : pathsI ms i = pathsI ns i := by
  induction i with
  | zero => rfl
  | succ i ih =>
    have hx : ms[i]? = some ms[i] := List.getElem?_eq_getElem (by omega)
    obtain ⟨n, hn, he⟩ := evs_get h hx
    rw [pathsI_succ hx, pathsI_succ hn, ih (by omega), he]
    have : lkI ms i = lkI ns i := by unfold lkI; rw [h]
    rw [this]
theorem evw_evs {ms ns : List EvM} (h : evs ms = evs ns) : evw ms = evw ns := by
  have : ∀ l : List EvM, evw l = ((evs l).map Ev.wt).sum := fun l => by unfold evw evs; rw [List.map_map]; rfl
  rw [this, this, h]
set_option maxHeartbeats 4000000 in
theorem eventTrims_ok (ms : List EvM) (d : Int) (p : Option Addr) (c : Nat) (hcc : ms.length ≤ c) (hw : evw ms ≤ 1048576) (w : World) (hA : Asc w) (hE : Evs w p ms) :
    PureC Tryd.prog 9 #[.slice p ms.length c, int d] w (.bool true) := by
  have hn : ms.length ≤ 1048576 := by
    have := sum_len (fun m : EvM => m.e.wt) ms (by intro m _; show 1 ≤ Ev.wt m.e; unfold Ev.wt; omega)
    unfold evw at hw; omega
  have hs : ∀ m ∈ ms, m.e.small := fun m hm => Ev.small_of (Nat.le_trans (sum_mem (fun m : EvM => m.e.wt) ms hm) hw)
  have hS := Sep.start w
  refine enter (l := [.slice p ms.length c, int d]) Tryd.func9 rfl Tryd.ntmps9 (by kernel_rfl) rfl ?_
  refine sgo ?_
  refine wlcall (evOwn_ok ms p c hn hs w w [] hS hE) ?_
  rintro _ w1 ⟨q, cc, ns, rfl, hev, -, hS⟩
  have hnl : ns.length = ms.length := by rw [← evs_len, hev, evs_len]
  have hnw : evw ns ≤ 1048576 := by rw [evw_evs hev]; exact hw
  have hns : ∀ m ∈ ns, m.e.small := fun m hm => Ev.small_of (Nat.le_trans (sum_mem (fun m : EvM => m.e.wt) ns hm) hnw)
  refine sgo ?_
  refine wlcall (trim_ok d ns q cc (by omega) hns w w1 _ hS (hA.frm hS.frm) (Sep.evs hS 0 1 rfl rfl)) ?_
  rintro _ w2 ⟨q1, c1, xs, rfl, hx1, -, hS⟩
  refine sgo ?_
  refine wlcall (trim_ok d ns q cc (by omega) hns w w2 _ hS (hA.frm hS.frm) (Sep.evs hS 2 3 rfl rfl)) ?_
  rintro _ w3 ⟨q2, c2, ys, rfl, hx2, -, hS⟩
  refine sgo ?_
  refine wlcall (paths_ok ns q cc hnw w w3 _ hS (hA.frm hS.frm) (Sep.evs hS 4 5 rfl rfl)) ?_
  rintro _ w4 ⟨q3, c3, rfl, -, hS⟩
  have hpp : pathsI ns ns.length = pathsI ms ms.length := by rw [pathsI_evs hev _ (Nat.le_refl _), hnl]
  rw [hpp] at hS ⊢
  rw [trM_evs d hev] at hx1 hx2
  rw [hev] at hx1 hx2 hS ⊢
  refine sgo ?_
  refine wlcall (at_ok ms p c hn hs w w4 _ hS (hE.frm hS.frm)) ?_
  rintro _ w5 ⟨q4, c4, rfl, -, hS⟩
  generalize hk : lkR (evs ms) = k at *
  refine sgo ?_
  refine salloc hS fun b12 w7 hS => ?_
  refine sgo ?_
  refine ssta (vs := [.slice q4 k.stack.length c4, int k.most, int k.at_, int k.err, int k.good]) hS 0 fun w8 hS => ?_
  generalize hP : pathsI ms ms.length = ps at *
  have hpl : ps.length ≤ 1048576 := by rw [← hP]; exact Nat.le_trans (pathsI_len _ _) hn
  have hrf := fun w' (cs' : List Plot) (h : Sep w w' cs') => refPaths_ok ms p c hcc hw w w' cs' h (hE.frm h.frm)
  rw [hP] at hrf
  -- what was trimmed
  have hlen : ∀ l : List EvM, evs l = evs (trM d ms).2 → l.length ≤ 1048576 := fun l hl => by
    rw [← evs_len, hl, evs_len, ← trI_all]; exact Nat.le_trans (tr_bnd d ms ms.length (Nat.le_refl _)).2.2.1 hn
  have htm : ∀ m ∈ (trM d ms).2, m ∈ ms := fun m hm => (tr_bnd d ms ms.length (Nat.le_refl _)).2.2.2 m (by rw [trI_all]; exact hm)
  have hsmall : ∀ l : List EvM, evs l = evs (trM d ms).2 → ∀ m ∈ l, m.e.small := fun l hl m hm => by
    have h1 : m.e ∈ evs (trM d ms).2 := by rw [← hl]; exact List.mem_map_of_mem hm
    obtain ⟨m', hm', e⟩ := List.mem_map.1 h1
    rw [← e]; exact hs m' (htm m' hm')
  have hrt := fun w' (cs' : List Plot) (h : Sep w w' cs') => refTrim_ok d ms p c hn w w' cs' h (hE.frm h.frm)
  have hlt := hlen (trM d ms).2 rfl
  have hst := hsmall (trM d ms).2 rfl
  generalize (trM d ms).2 = ts at *
  have hxs : trimC d k ≠ 0 → xs = [] := fun h => by rw [if_neg h] at hx1; exact List.map_eq_nil_iff.1 hx1
  by_cases h0 : k.err = 0
  · rw [if_pos h0] at hS ⊢
    replace hS : Sep w w8 [pOwn b12 [.slice q4 k.stack.length c4, int k.most, int k.at_, int k.err, int k.good], pRow 1 q4 k.stack.length c4 (strs k.stack), pRow 1 q3 ps.length c3 (strs ps), pRow 4 q2 ys.length c2 (ys.flatMap EvM.cells), pMany (ys.map EvM.row), pRow 4 q1 xs.length c1 (xs.flatMap EvM.cells), pMany (xs.map EvM.row), pRow 4 q ns.length cc (ns.flatMap EvM.cells), pMany (ns.map EvM.row)] := hS
    have hC : trimC d k = if d < 0 then 1 else 0 := by unfold trimC; rw [h0]
    rw [h0] at hS ⊢
    refine sgo ?_
    refine wlpure (num18_ok 0 _) fun w9 hf9 => ?_
    replace hS := hS.grow hf9
    refine sgo ?_
    refine wlcallgt (vals := [.slice p ms.length c]) (hrf w9 _ hS) (fun v5 w10 hR => ?_) ?_
    rotate_left
    · simp [pkb]
    obtain ⟨q5, c5, rfl, -, hS⟩ := hR
    refine sgo ?_
    refine wlcallgp (vals := [.slice q3 ps.length c3, .slice q5 ps.length c5]) (fun _ => sameNames_ok ps ps q3 q5 c3 c5 hpl hpl w10 (hS.im 3 rfl) (hS.im 0 rfl)) fun w11 hf11 => ?_
    replace hS := hS.grow hf11
    rw [decide_eq_true rfl]
    refine sgo ?_
    refine wcno ?_ (ht := by simp [pkb])
    refine sgo ?_
    refine wcutt (X := Unit) (fun _ => [(0, .slice p ms.length c), (1, int d), (5, .slice q ns.length cc), (6, .slice q1 xs.length c1), (7, int (trimC d k)), (8, .slice q2 ys.length c2), (13, int (trimC d k))])
      (fun _ w' => w' = w11) ?_ ?_
    · (show WC _ _ _ _ _ _ _; first | refine WC_dec rfl (fun hc => ?_) (fun hc => ?_) | refine WC_cond rfl (fun hc => ?_) (fun hc => ?_))
      · rw [if_pos hc] at hC
        rw [hC]
        refine sgo ?_
        exact ⟨(), ⟨rfl, rfl, rfl, rfl, rfl, rfl, rfl, trivial⟩, rfl⟩
      · rw [if_neg hc] at hC
        rw [hC]
        refine sgo ?_
        exact ⟨(), ⟨rfl, rfl, rfl, rfl, rfl, rfl, rfl, trivial⟩, rfl⟩
    rintro _ w12 ρ rfl
    clear hC
    generalize trimC d k = C at *
    refine sgo ?_
    refine wlpure (num18_ok C _) fun w13 hf13 => ?_
    replace hS := hS.grow hf13
    refine sgo ?_
    refine wcno ?_ (ht := by simp)
    refine sgo ?_
    by_cases hz : C = 0
    · refine wcno ?_ (ht := by simpa using hz)
      rw [if_pos hz] at hx1 hx2
      refine sgo ?_
      refine wlcall (hrt w13 _ hS) ?_
      rintro _ w14 ⟨q6, c6, rfl, -, hS⟩
      have hEv : ∀ w2 cs2, Sep w w2 (pRow 4 q6 ts.length c6 (ts.flatMap EvM.cells) :: cs2) → Evs w2 q6 ts := fun w2 cs2 h => ⟨h.im 0 rfl, fun m hm => hE.each m (htm m hm) |>.sep h⟩
      have hxl := hlen xs hx1
      have hyl := hlen ys hx2
      replace hS := hS.front 0 rfl
      refine sgo ?_
      refine wlpure (evEqual_ok xs ts q1 q6 c1 c6 (by omega) (by omega) (hsmall xs hx1) hst w14 (Sep.evs hS 7 8 rfl rfl) (hEv _ _ hS)) fun w15 hf15 => ?_
      replace hS := hS.grow hf15
      rw [decide_eq_true hx1]
      refine sgo ?_
      refine wlcall (evSpoil_ok xs q1 c1 (by omega) (hsmall xs hx1) w w15 _ (((hS.front 8 rfl).front 8 rfl))) ?_
      rintro _ w16 hS
      refine sgo ?_
      refine wlpure (evEqual_ok ys ts q2 q6 c2 c6 (by omega) (by omega) (hsmall ys hx2) hst w16 (Sep.evs hS 5 6 rfl rfl) (hEv _ _ hS)) fun w17 hf17 => ?_
      replace hS := hS.grow hf17
      rw [decide_eq_true hx2]
      refine sgo ?_
      refine wlcallgp (vals := [.slice q ns.length cc, .slice p ms.length c]) (fun _ => evEqual_ok ns ms q p cc c (by omega) (by omega) hns hs w17 (Sep.evs hS 7 8 rfl rfl) (hE.frm hS.frm)) fun w18 hf18 => ?_
      replace hS := hS.grow hf18
      rw [decide_eq_true hev]
      refine sgo ?_
      refine wlcallgp (vals := []) (fun _ => awake18_ok _ (hA.frm hS.frm)) (fun w19 hf19 => ?_) (ha := fun _ => rfl)
      replace hS := hS.grow hf19
      refine sgo ?_
      (first | refine fp1 (.inl rfl) rfl rfl ?_ | refine fp2 (.inl rfl) rfl rfl rfl ?_ | refine fp3 (.inl rfl) rfl rfl rfl rfl ?_ | refine fp0 (.inr rfl) rfl ?_ | refine fp0 (.inl rfl) rfl ?_ | refine fp1 (.inr rfl) rfl rfl ?_); refine ⟨?_, by (first | exact Frm.refl _ | assumption | exact Go.Sv.Sep.frm (by assumption) | (refine Frm.trans ?_ (by assumption); first | exact Frm.refl _ | assumption))⟩; (try simp only [realB, rv_true, Nat.reduceBEq, cond_true, cond_false, entG, real_lif, updGL])
      simp [pkb]
    · refine wcyes ?_ (ht := by simpa using hz)
      obtain rfl := hxs hz
      refine sgo ?_
      refine wlcallgp (vals := []) (fun _ => awake18_ok _ (hA.frm hS.frm)) (fun w13 hf13 => ?_) (ha := fun _ => rfl)
      replace hS := hS.grow hf13
      refine sgo ?_
      (first | refine fp1 (.inl rfl) rfl rfl ?_ | refine fp2 (.inl rfl) rfl rfl rfl ?_ | refine fp3 (.inl rfl) rfl rfl rfl rfl ?_ | refine fp0 (.inr rfl) rfl ?_ | refine fp0 (.inl rfl) rfl ?_ | refine fp1 (.inr rfl) rfl rfl ?_); refine ⟨?_, by (first | exact Frm.refl _ | assumption | exact Go.Sv.Sep.frm (by assumption) | (refine Frm.trans ?_ (by assumption); first | exact Frm.refl _ | assumption))⟩; (try simp only [realB, rv_true, Nat.reduceBEq, cond_true, cond_false, entG, real_lif, updGL])
      simp [pkb]
  · rw [if_neg h0] at hS ⊢
    replace hS : Sep w w8 [pOwn b12 [.slice q4 k.stack.length c4, int k.most, int k.at_, int k.err, int k.good], pRow 1 q4 k.stack.length c4 (strs k.stack), pRow 1 q3 0 c3 (strs []), pRow 4 q2 ys.length c2 (ys.flatMap EvM.cells), pMany (ys.map EvM.row), pRow 4 q1 xs.length c1 (xs.flatMap EvM.cells), pMany (xs.map EvM.row), pRow 4 q ns.length cc (ns.flatMap EvM.cells), pMany (ns.map EvM.row)] := hS
    have hC : trimC d k = if d < 0 then 1 else k.err := rfl
    have hC0 : trimC d k ≠ 0 := by rw [hC]; split <;> omega
    obtain rfl := hxs hC0
    generalize k.err = E at *
    refine sgo ?_
    refine wlpure (num18_ok E _) fun w9 hf9 => ?_
    replace hS := hS.grow hf9
    refine sgo ?_
    refine wlskipg (.slice none 0 0) ?_ (hgt := by simp [pkb, h0])
    refine sgo ?_
    refine wlskipg (.bool true) ?_ (hgt := by simp [pkb, h0])
    refine sgo ?_
    refine wcno ?_ (ht := by simp [pkb, h0])
    refine sgo ?_
    refine wcutt (X := Unit) (fun _ => [(0, .slice p ms.length c), (1, int d), (6, .slice q1 0 c1), (7, int (trimC d k)), (13, int (trimC d k))])
      (fun _ w' => w' = w9) ?_ ?_
    · (show WC _ _ _ _ _ _ _; first | refine WC_dec rfl (fun hc => ?_) (fun hc => ?_) | refine WC_cond rfl (fun hc => ?_) (fun hc => ?_))
      · rw [if_pos hc] at hC
        rw [hC]
        refine sgo ?_
        exact ⟨(), ⟨rfl, rfl, rfl, rfl, rfl, trivial⟩, rfl⟩
      · rw [if_neg hc] at hC
        rw [hC]
        refine sgo ?_
        exact ⟨(), ⟨rfl, rfl, rfl, rfl, rfl, trivial⟩, rfl⟩
    rintro _ w12 ρ rfl
    clear hC
    generalize trimC d k = C at *
    refine sgo ?_
    refine wlpure (num18_ok C _) fun w13 hf13 => ?_
    replace hS := hS.grow hf13
    refine sgo ?_
    refine wcno ?_ (ht := by simp)
    refine sgo ?_
    refine wcyes ?_ (ht := by simpa using hC0)
    refine sgo ?_
    refine wlcallgp (vals := []) (fun _ => awake18_ok _ (hA.frm hS.frm)) (fun w13 hf13 => ?_) (ha := fun _ => rfl)
    replace hS := hS.grow hf13
    refine sgo ?_
    (first | refine fp1 (.inl rfl) rfl rfl ?_ | refine fp2 (.inl rfl) rfl rfl rfl ?_ | refine fp3 (.inl rfl) rfl rfl rfl rfl ?_ | refine fp0 (.inr rfl) rfl ?_ | refine fp0 (.inl rfl) rfl ?_ | refine fp1 (.inr rfl) rfl rfl ?_); refine ⟨?_, by (first | exact Frm.refl _ | assumption | exact Go.Sv.Sep.frm (by assumption) | (refine Frm.trans ?_ (by assumption); first | exact Frm.refl _ | assumption))⟩; (try simp only [realB, rv_true, Nat.reduceBEq, cond_true, cond_false, entG, real_lif, updGL])
    simp [pkb]
end Go.Proofs.YthgbpgjpnaanlaaDoor

/-
  From a frame to what a row asks behind the call: nothing that was there has turned (new blocks may be frozen).
-/
set_option linter.unusedSimpArgs false
set_option linter.unusedVariables false
set_option linter.unnecessarySimpa false
namespace Go.ChangeShapes
section
variable {H : Type} {enc : TypeId × Value → H} {P : Program}
theorem post_frm {f : Func} {s : ChangeSpec} {apart fresh handsOn again : Bool} {W W' : World} {args : Array Value} {v : Value} {ds gs : List (DataW H)} {before pa pv : List MemPlace}
    (hW : DataW.Whole enc P f.params.toList s.vars apart W args.toList ds gs before)
    (hres : ∀ (b : Nat) (sp : Nat → Bool) (hd : Bool), DataW.TrodAll enc P W' b sp hd f.resultTypes.toList (v.resultList f.resultTypes.size) (s.fn H (ds ++ gs)).results [])
    (hargs : ∀ sp : Nat → Bool, (∀ p ∈ before, sp p.block = true) → DataW.TrodAll enc P W' 0 sp true f.params.toList args.toList (s.fn H (ds ++ gs)).args pa)
    (hvars : ∀ sp : Nat → Bool, (∀ p ∈ before, sp p.block = true) → DataW.TrodVars enc P W' sp s.vars (s.fn H (ds ++ gs)).vars pv)
    (hps : before = pa ++ pv) (hk : Sv.Frm W W')
    (hok : ∀ (j : Nat) (t : TypeId) (r : Value), f.resultTypes[j]? = some t → (v.resultList f.resultTypes.size)[j]? = some r → Value.okWide P W' .any 0 t r) :
    s.post enc P f apart fresh handsOn again W args v W' := by
  have hold : ∀ p ∈ before, (fun b => decide (b < W.heap.size)) p.block = true := fun p hp => by simpa using hW.lt p hp
  refine ⟨ds, gs, before, [], pa, pv, hW, hres _ _ _, hargs _ hold, hvars _ hold, World.keptBut_mono (fun p hp => ⟨hp, ?_⟩) (RowKit.Below.frame hk (· ∈ before)), fun _ => ?_⟩
  · rw [hps, List.mem_append] at hp
    exact Or.inr hp
  · have hlt := hW.lt
    obtain ⟨_, _, _, _, _, hz, hn⟩ := hW
    refine ⟨hok, _, _, ([] ++ pa) ++ pv, ⟨[] ++ pa, pv, trodAll_append (hargs _ (fun _ _ => rfl)) (hres _ _ _), hvars _ (fun _ _ => rfl), rfl, ?_, ?_⟩, ?_⟩
    · intro b off hp
      have hp' : (.cell b off : MemPlace) ∈ before := by rw [hps]; simpa using hp
      rw [RowKit.Below.frozen hk (hlt _ hp')]
      exact hz b off hp'
    · intro ha
      have := hn ha
      rw [hps] at this
      simpa using this
    · intro p hp _
      rw [hps]
      simpa using hp
end
end Go.ChangeShapes

/-
  From a reading of the arguments to what lies in memory; and back: a law leaves the arguments as they were.
-/
set_option linter.unusedSimpArgs false
set_option linter.unusedVariables false
set_option linter.unnecessarySimpa false
namespace Go.Sv
open Go Go.RowKit Go.ChangeShapes Go.WideShapes
theorem cell_lt {w : World} {a : Addr} {v : Value} (h : w.cell? a = some v) : a.block < w.heap.size := by
  rcases Nat.lt_or_ge a.block w.heap.size with h1 | h1
  · exact h1
  · have : w.heap[a.block]? = none := Array.getElem?_eq_none h1
    simp [World.cell?, this] at h
theorem seg_app {w : World} {a : Addr} {l l' : List Value} (h : seg w a l) (h' : seg w (a.add l.length) l') : seg w a (l ++ l') := by
  intro i hi
  rcases Nat.lt_or_ge i l.length with h1 | h1
  · rw [h i h1, List.getElem?_append_left h1]
  · have := h' (i - l.length) (by simp at hi; omega)
    rw [add_add, show l.length + (i - l.length) = i by omega] at this
    rw [this, List.getElem?_append_right h1]
theorem seg_range {w : World} {a : Addr} {k : Nat} (f : Nat → List Value) : ∀ n : Nat, (∀ i, i < n → (f i).length = k ∧ seg w (a.add (i * k)) (f i)) → seg w a ((List.range n).flatMap f) ∧ ((List.range n).flatMap f).length = n * k
  | 0, _ => ⟨fun i hi => by simp at hi, by simp⟩
  | n + 1, h => by
    obtain ⟨h1, h2⟩ := seg_range f n fun i hi => h i (by omega)
    obtain ⟨h3, h4⟩ := h n (by omega)
    rw [List.range_succ, List.flatMap_append]
    simp only [List.flatMap_cons, List.flatMap_nil, List.append_nil]
    refine ⟨seg_app h1 (by rw [h2]; exact h4), ?_⟩
    rw [List.length_append, h2, h3, Nat.succ_mul]
/-- a law's ending: it answered true, and left all as it was -/
theorem trodAll_frm {H : Type} {enc : TypeId × Value → H} {P : Program} (hl : laidOutB P = true) {W W' : World} (hf : Sv.Frm W W') {sp : Nat → Bool} : ∀ {ts : List TypeId} {vs : List Value} {ds : List (DataW H)} {ps : List MemPlace},
    (∀ t ∈ ts, P.readableRec t = true ∧ t < P.types.size) → DataW.TrodAll enc P W 0 (fun _ => true) true ts vs ds ps → (∀ p ∈ ps, p.block < W.heap.size) → (∀ p ∈ ps, sp p.block = true) → DataW.TrodAll enc P W' 0 sp true ts vs ds ps
  | [], [], [], _, _, h, _, _ => h
  | t :: ts, v :: vs, d :: ds, _, ht, ⟨p, q, h1, h2, e⟩, hlt, hs => by
    subst e
    refine ⟨p, q, ?_, ?_, rfl⟩
    · obtain ⟨hr, hrow⟩ := ht t List.mem_cons_self
      exact WideElems.Trod_stays hl hr hrow h1 (fun x hx => RowKit.Below.same hf (hlt x (List.mem_append_left _ hx))) fun x hx => hs x (List.mem_append_left _ hx)
    · exact trodAll_frm hl hf (fun t ht' => ht t (List.mem_cons_of_mem _ ht')) h2 (fun x hx => hlt x (List.mem_append_right _ hx)) fun x hx => hs x (List.mem_append_right _ hx)
theorem law_ends {H : Type} {enc : TypeId × Value → H} {P : Program} {f : Func} {s : ChangeSpec} {W W' : World} {args : Array Value} {ds gs : List (DataW H)} {before : List MemPlace} {tb : TypeId}
    (hl : laidOutB P = true) (hT : ∀ t ∈ f.params.toList, P.readableRec t = true ∧ t < P.types.size) (hv : s.vars = []) (hrt : f.resultTypes = #[tb]) (hb : P.underlying tb = some .bool)
    (hW : DataW.Whole enc P f.params.toList s.vars false W args.toList ds gs before) (hfn : s.fn H (ds ++ gs) = { results := [.lit (.bool true)], args := ds ++ gs }) (hg : Frm W W') :
    s.post enc P f false true false false W args (.bool true) W' := by
  have hW' := hW
  have hlt := hW.lt
  obtain ⟨p, q, hA, hV, rfl, _, _⟩ := hW
  rw [hv] at hV
  obtain ⟨rfl, rfl⟩ := trodVars_none hV
  have hrl : (Value.bool true).resultList f.resultTypes.size = [.bool true] := by rw [hrt]; rfl
  simp only [List.append_nil] at hlt hfn
  refine post_frm (pa := p) (pv := []) hW' (fun _ _ _ => ?_) (fun sp hsp => ?_) (fun _ _ => ?_) rfl hg (ok_one hrt rfl (okWide_bool_mk hb _))
  · rw [hrt]
    simp only [List.append_nil, hfn]
    exact trodAll_cons_mk (shut_bool hb _) trodAll_mk0
  · simp only [List.append_nil, hfn]
    exact trodAll_frm hl hg hT hA hlt (fun x hx => hsp x (by simpa using hx))
  · simp only [List.append_nil, hfn, hv]
    rfl
end Go.Sv
namespace Go.Proofs.YthgbpgjpnaanlaaDoor
open Go Go.Sv Go.RowKit Go.ChangeShapes Go.WideShapes Go.Deep

theorem laidOut : laidOutB Tryd.prog = true := by kernel_rfl
theorem own : ownKnob Tryd.prog.godebug = none := by kernel_rfl

section
variable {H : Type} {P : Program} {enc : TypeId × Value → H} {w : World} {base : Nat} {spare : Nat → Bool} {held : Bool}
theorem bulkAll_eq : ∀ l : List (DataW H), Rows.uptoBulkAll l = (l.map Rows.uptoBulk).sum
  | [] => by simp [Rows.uptoBulkAll]
  | d :: l => by simp only [Rows.uptoBulkAll, List.map_cons, List.sum_cons, bulkAll_eq l]
theorem bulk_slice (es rs : List (DataW H)) : Rows.uptoBulk (.slice es rs) = (es.map Rows.uptoBulk).sum + (rs.map Rows.uptoBulk).sum + 1 := by simp only [Rows.uptoBulk, bulkAll_eq]
theorem bulk_agg (es : List (DataW H)) : Rows.uptoBulk (.agg es) = (es.map Rows.uptoBulk).sum + 1 := by simp only [Rows.uptoBulk, bulkAll_eq]
theorem bulk_nil : Rows.uptoBulk (.nil : DataW H) = 1 := by simp only [Rows.uptoBulk]
theorem bulk_str (l : List UInt8) : Rows.uptoBulk (.lit (.string l) : DataW H) = l.length + 1 := by simp only [Rows.uptoBulk]
theorem bulk_int (k : IntKind) (n : Int) : Rows.uptoBulk (.lit (.int k n) : DataW H) = 1 := by simp only [Rows.uptoBulk]
theorem bulk_bool (b : Bool) : Rows.uptoBulk (.lit (.bool b) : DataW H) = 1 := by simp only [Rows.uptoBulk]

/-- a slice of records: what they are, where they lie, and what they hold together -/
theorem open_recs {t e : TypeId} {fuel : Nat} {cs : List Value} {x : DataW H × List MemPlace} {α : Type} (cells : α → List Value) (wt : α → Nat) (Q : α → Prop) (ht : P.underlying t = some (.slice e))
    (h : DataW.trod enc P w base spare held fuel t cs = some x)
    (hrec : ∀ k cs' y, cs'.length = P.cellsOf e → DataW.trod enc P w base spare held k e cs' = some y → ∃ r, cs' = cells r ∧ Q r ∧ wt r ≤ Rows.uptoBulk y.1) :
    ∃ (p : Option Addr) (c : Nat) (rs : List α), cs = [.slice p rs.length c] ∧ rs.length ≤ c ∧ c ≤ maxLen ∧ Im [] w p (rs.flatMap cells) ∧ (∀ r ∈ rs, Q r) ∧ (rs.map wt).sum + 1 ≤ Rows.uptoBulk x.1 := by
  rcases open_slice ht h with ⟨rfl, rfl⟩ | ⟨a, len, cap, m, n, D, Pl, rfl, _, hl, hm, hmm, rfl, hi⟩
  · exact ⟨none, 0, [], rfl, Nat.le_refl _, Nat.zero_le _, .inl rfl, by simp, by simp [bulk_nil]⟩
  · have hlm : len ≤ m := by rw [hmm]; split <;> omega
    have key : ∀ n : Nat, n ≤ len → ∃ rs : List α, rs.length = n ∧ rs.flatMap cells = (List.range n).flatMap (fun i => (w.cells? base (a.add (i * P.cellsOf e)) (P.cellsOf e)).getD []) ∧ (∀ r ∈ rs, Q r) ∧ (rs.map wt).sum ≤ ((List.range n).map fun i => Rows.uptoBulk (D i)).sum := by
      intro n
      induction n with
      | zero => intro _; exact ⟨[], rfl, rfl, by simp, by simp⟩
      | succ n ih =>
        intro hn
        obtain ⟨rs, h1, h2, h3, h4⟩ := ih (by omega)
        obtain ⟨cs', h5, h6⟩ := hi n (by omega)
        obtain ⟨_, hcl, _⟩ := World.cells?_some h5
        obtain ⟨r, h7, h8, h9⟩ := hrec _ _ _ hcl h6
        refine ⟨rs ++ [r], by simp [h1], ?_, ?_, ?_⟩
        · rw [List.range_succ, List.flatMap_append, List.flatMap_append, h2]
          simp [h5, h7]
        · intro x hx
          rcases List.mem_append.1 hx with hx | hx
          · exact h3 x hx
          · rw [List.mem_singleton.1 hx]; exact h8
        · rw [List.range_succ, List.map_append, List.map_append, List.sum_append, List.sum_append]
          simp only [List.map_cons, List.map_nil, List.sum_cons, List.sum_nil]
          dsimp only at h9
          omega
    obtain ⟨rs, h1, h2, h3, h4⟩ := key len (Nat.le_refl _)
    refine ⟨some a, cap, rs, by rw [h1], by omega, hm, ?_, h3, ?_⟩
    · rw [h2]
      have hsr := seg_range (w := w) (a := a) (k := P.cellsOf e) (fun i => (w.cells? base (a.add (i * P.cellsOf e)) (P.cellsOf e)).getD []) len (fun i hil => by
        obtain ⟨cs', h5, _⟩ := hi i (by omega)
        obtain ⟨_, hcl, hat⟩ := World.cells?_some h5
        rw [h5]
        exact ⟨hcl, fun j hj => hat j (by simpa [hcl] using hj)⟩)
      generalize (List.range len).flatMap (fun i => (w.cells? base (a.add (i * P.cellsOf e)) (P.cellsOf e)).getD []) = L at *
      cases L with
      | nil => exact .inl rfl
      | cons v L =>
        refine .inr ⟨a, rfl, hsr.1, ?_, by simp⟩
        have := hsr.1 0 (by simp)
        have h0 : w.cell? (a.add 0) = some v := this
        have := cell_lt h0
        rwa [add_block] at this
    · rw [bulk_slice, List.map_map]
      have : ((List.range len).map (Rows.uptoBulk ∘ D)).sum = ((List.range len).map fun i => Rows.uptoBulk (D i)).sum := rfl
      omega
theorem str_of (s : ByteArray) : Value.string s = str s.data.toList := by cases s; rfl
/-- a cell that is a text -/
theorem open_strc {t : TypeId} {fuel : Nat} {cs : List Value} {x : DataW H × List MemPlace} (ht : P.underlying t = some .string) (h : DataW.trod enc P w base spare held fuel t cs = some x) : ∃ l : List UInt8, cs = [str l] ∧ Rows.uptoBulk x.1 = l.length + 1 := by
  obtain ⟨s, rfl, rfl, _⟩ := DataW.trod_string ht h
  exact ⟨s.data.toList, by rw [str_of], bulk_str _⟩
theorem open_intc {t : TypeId} {k : IntKind} {fuel : Nat} {cs : List Value} {x : DataW H × List MemPlace} (ht : P.underlying t = some (.int k)) (h : DataW.trod enc P w base spare held fuel t cs = some x) : ∃ n : Int, cs = [.int k n] ∧ k.min ≤ n ∧ n ≤ k.max ∧ Rows.uptoBulk x.1 = 1 := by
  obtain ⟨n, rfl, rfl, hw⟩ := DataW.trod_int ht h
  simp only [Lit.wf, IntKind.has, Bool.and_eq_true, decide_eq_true_eq] at hw
  exact ⟨n, rfl, hw.1, hw.2, bulk_int _ _⟩
theorem open_boolc {t : TypeId} {fuel : Nat} {cs : List Value} {x : DataW H × List MemPlace} (ht : P.underlying t = some .bool) (h : DataW.trod enc P w base spare held fuel t cs = some x) : ∃ b : Bool, cs = [.bool b] ∧ Rows.uptoBulk x.1 = 1 := by
  obtain ⟨b, rfl, rfl⟩ := DataW.trod_bool ht h
  exact ⟨b, rfl, bulk_bool _⟩
theorem small_le {ds : List (DataW H)} (hk : Rows.uptoSmall H ds = true) : (ds.map Rows.uptoBulk).sum ≤ 1048576 := by
  have := of_decide_eq_true hk
  rwa [bulkAll_eq] at this
end
end Go.Proofs.YthgbpgjpnaanlaaDoor

/-
  Readings of attributes: what lies in memory.
-/
set_option linter.unusedSimpArgs false
set_option linter.unusedVariables false
set_option linter.unnecessarySimpa false
namespace Go.Proofs.YthgbpgjpnaanlaaDoor
open Go Go.Sv Go.RowKit Go.ChangeShapes Go.WideShapes Go.Deep

theorem c_str : Tryd.prog.cellsOf 9 = 1 := by kernel_rfl
theorem c_attrs : Tryd.prog.cellsOf 46 = 1 := by kernel_rfl
theorem c_attr : Tryd.prog.cellsOf 51 = 2 := by kernel_rfl
section
variable {H : Type} {enc : TypeId × Value → H} {w : World} {base : Nat} {spare : Nat → Bool} {held : Bool}
set_option maxRecDepth 100000 in
theorem open_at {fuel : Nat} {cs : List Value} {x : DataW H × List MemPlace} (h : DataW.trod enc Tryd.prog w base spare held fuel 51 cs = some x) : ∃ r : At, cs = r.cells ∧ True ∧ r.wt ≤ Rows.uptoBulk x.1 := by
  obtain ⟨xs, n, _, rfl, hl, hlen, hf⟩ := DataW.trod_struct Tryd.underlying51 h
  rw [c_attr] at hl
  have f0 := hf 0 _ rfl
  have f1 := hf 1 _ rfl
  clear hf h
  match cs, hl with
  | [c0, c1], _ =>
    match xs, hlen with
    | [y0, y1], _ =>
      simp only [c_str, List.drop_zero, List.drop_succ_cons, List.take_succ_cons, List.take_zero, List.getElem?_cons_zero, List.getElem?_cons_succ] at f0 f1
      obtain ⟨l0, e0, b0⟩ := open_strc Tryd.underlying9 f0
      obtain ⟨l1, e1, b1⟩ := open_strc Tryd.underlying9 f1
      injection e0 with e0
      injection e1 with e1
      subst e0 e1
      refine ⟨⟨l0, l1⟩, rfl, trivial, ?_⟩
      rw [bulk_agg]
      simp only [List.map_cons, List.map_nil, List.sum_cons, List.sum_nil, b0, b1, At.wt]
      omega
end
end Go.Proofs.YthgbpgjpnaanlaaDoor

/-
  Readings of events: what lies in memory.
-/
set_option linter.unusedSimpArgs false
set_option linter.unusedVariables false
set_option linter.unnecessarySimpa false
namespace Go.Proofs.YthgbpgjpnaanlaaDoor
open Go Go.Sv Go.RowKit Go.ChangeShapes Go.WideShapes Go.Deep
theorem c_ekind : Tryd.prog.cellsOf 45 = 1 := by kernel_rfl
theorem c_ev : Tryd.prog.cellsOf 48 = 4 := by kernel_rfl
section
variable {H : Type} {enc : TypeId × Value → H} {w : World} {base : Nat} {spare : Nat → Bool} {held : Bool}
set_option maxRecDepth 100000 in
theorem open_ev {fuel : Nat} {cs : List Value} {x : DataW H × List MemPlace} (h : DataW.trod enc Tryd.prog w base spare held fuel 48 cs = some x) : ∃ r : EvM, cs = r.cells ∧ Im [] w r.p (r.e.attrs.flatMap At.cells) ∧ r.e.wt ≤ Rows.uptoBulk x.1 := by
  obtain ⟨xs, n, _, rfl, hl, hlen, hf⟩ := DataW.trod_struct Tryd.underlying48 h
  rw [c_ev] at hl
  have f0 := hf 0 _ rfl
  have f1 := hf 1 _ rfl
  have f2 := hf 2 _ rfl
  have f3 := hf 3 _ rfl
  clear hf h
  match cs, hl with
  | [c0, c1, c2, c3], _ =>
    match xs, hlen with
    | [y0, y1, y2, y3], _ =>
      simp only [c_str, c_ekind, c_attrs, List.drop_zero, List.drop_succ_cons, List.take_succ_cons, List.take_zero, List.getElem?_cons_zero, List.getElem?_cons_succ] at f0 f1 f2 f3
      obtain ⟨k, e0, _, _, b0⟩ := open_intc Tryd.underlying45 f0
      obtain ⟨l1, e1, b1⟩ := open_strc Tryd.underlying9 f1
      obtain ⟨l2, e2, b2⟩ := open_strc Tryd.underlying9 f2
      obtain ⟨p, c, es, e3, _, _, him, _, b3⟩ := open_recs At.cells At.wt (fun _ => True) Tryd.underlying46 f3 (fun k cs' y _ hy => open_at hy)
      injection e0 with e0; injection e1 with e1; injection e2 with e2; injection e3 with e3
      subst e0 e1 e2 e3
      refine ⟨⟨⟨k, l1, l2, es⟩, p, c⟩, rfl, him, ?_⟩
      simp only [bulk_agg, List.map_cons, List.map_nil, List.sum_cons, List.sum_nil, b0, b1, b2]
      unfold Ev.wt
      dsimp only at b3 ⊢
      omega
set_option maxRecDepth 100000 in
theorem open_evs {v : Value} {d : DataW H} {ps : List MemPlace} {r : Reach} {b0 : Nat} (hv : Value.okWide Tryd.prog w r b0 25 v) (h : DataW.Trod enc Tryd.prog w base spare held 25 v d ps) :
    ∃ (p : Option Addr) (c : Nat) (ms : List EvM), v = .slice p ms.length c ∧ Evs w p ms ∧ evw ms + 1 ≤ Rows.uptoBulk d := by
  obtain ⟨a, n, cc, rfl⟩ := okWide_slice Tryd.underlying25 hv
  obtain ⟨fuel, hf⟩ := h
  obtain ⟨p, c, ms, e, _, _, him, hQ, hw⟩ := open_recs EvM.cells (fun m => m.e.wt) (fun m => Im [] w m.p (m.e.attrs.flatMap At.cells)) Tryd.underlying25 hf (fun k cs' y _ hy => open_ev hy)
  have e' : Value.slice a n cc = .slice p ms.length c := by simpa [Value.cells] using e
  exact ⟨p, c, ms, e', ⟨him, hQ⟩, hw⟩
end
end Go.Proofs.YthgbpgjpnaanlaaDoor

/-
  Readings of lists of events, with their capacity.
-/
set_option linter.unusedSimpArgs false
set_option linter.unusedVariables false
set_option linter.unnecessarySimpa false
namespace Go.Proofs.YthgbpgjpnaanlaaDoor
open Go Go.Sv Go.RowKit Go.ChangeShapes Go.WideShapes Go.Deep
set_option maxRecDepth 100000 in
theorem open_evs2 {H : Type} {enc : TypeId × Value → H} {w : World} {base : Nat} {spare : Nat → Bool} {held : Bool} {v : Value} {d : DataW H} {ps : List MemPlace} {r : Reach} {b0 : Nat} (hv : Value.okWide Tryd.prog w r b0 25 v) (h : DataW.Trod enc Tryd.prog w base spare held 25 v d ps) :
    ∃ (p : Option Addr) (c : Nat) (ms : List EvM), v = .slice p ms.length c ∧ ms.length ≤ c ∧ Evs w p ms ∧ evw ms + 1 ≤ Rows.uptoBulk d := by
  obtain ⟨a, n, cc, rfl⟩ := okWide_slice Tryd.underlying25 hv
  obtain ⟨fuel, hf⟩ := h
  obtain ⟨p, c, ms, e, hc, _, him, hQ, hw⟩ := open_recs EvM.cells (fun m => m.e.wt) (fun m => Im [] w m.p (m.e.attrs.flatMap At.cells)) Tryd.underlying25 hf (fun k cs' y _ hy => open_ev hy)
  have e' : Value.slice a n cc = .slice p ms.length c := by simpa [Value.cells] using e
  exact ⟨p, c, ms, e', hc, ⟨him, hQ⟩, hw⟩
end Go.Proofs.YthgbpgjpnaanlaaDoor

/-
  Readings of arguments of one cell: numbers, truth values.
-/
set_option linter.unusedSimpArgs false
set_option linter.unusedVariables false
set_option linter.unnecessarySimpa false
namespace Go.Proofs.YthgbpgjpnaanlaaDoor
open Go Go.Sv Go.RowKit Go.ChangeShapes Go.WideShapes Go.Deep
set_option maxRecDepth 100000 in
theorem open_int1 {H : Type} {enc : TypeId × Value → H} {w : World} {base : Nat} {spare : Nat → Bool} {held : Bool} {v : Value} {d : DataW H} {ps : List MemPlace} {r : Reach} {b0 : Nat} (hv : Value.okWide Tryd.prog w r b0 3 v) (h : DataW.Trod enc Tryd.prog w base spare held 3 v d ps) :
    ∃ n : Int, v = .int .i64 n ∧ IntKind.min .i64 ≤ n ∧ n ≤ IntKind.max .i64 ∧ 1 ≤ Rows.uptoBulk d := by
  obtain ⟨s, rfl⟩ := okWide_int Tryd.underlying3 hv
  obtain ⟨fuel, hf⟩ := h
  obtain ⟨l, e, h1, h2, hw⟩ := open_intc Tryd.underlying3 hf
  dsimp only at hw
  exact ⟨l, by simpa [Value.cells] using e, h1, h2, by omega⟩
set_option maxRecDepth 100000 in
theorem open_uint1 {H : Type} {enc : TypeId × Value → H} {w : World} {base : Nat} {spare : Nat → Bool} {held : Bool} {v : Value} {d : DataW H} {ps : List MemPlace} {r : Reach} {b0 : Nat} (hv : Value.okWide Tryd.prog w r b0 159 v) (h : DataW.Trod enc Tryd.prog w base spare held 159 v d ps) :
    ∃ n : Int, v = .int .u64 n ∧ IntKind.min .u64 ≤ n ∧ n ≤ IntKind.max .u64 ∧ 1 ≤ Rows.uptoBulk d := by
  obtain ⟨s, rfl⟩ := okWide_int Tryd.underlying159 hv
  obtain ⟨fuel, hf⟩ := h
  obtain ⟨l, e, h1, h2, hw⟩ := open_intc Tryd.underlying159 hf
  dsimp only at hw
  exact ⟨l, by simpa [Value.cells] using e, h1, h2, by omega⟩
set_option maxRecDepth 100000 in
theorem open_rune1 {H : Type} {enc : TypeId × Value → H} {w : World} {base : Nat} {spare : Nat → Bool} {held : Bool} {v : Value} {d : DataW H} {ps : List MemPlace} {r : Reach} {b0 : Nat} (hv : Value.okWide Tryd.prog w r b0 21 v) (h : DataW.Trod enc Tryd.prog w base spare held 21 v d ps) :
    ∃ n : Int, v = .int .i32 n ∧ IntKind.min .i32 ≤ n ∧ n ≤ IntKind.max .i32 ∧ 1 ≤ Rows.uptoBulk d := by
  obtain ⟨s, rfl⟩ := okWide_int Tryd.underlying21 hv
  obtain ⟨fuel, hf⟩ := h
  obtain ⟨l, e, h1, h2, hw⟩ := open_intc Tryd.underlying21 hf
  dsimp only at hw
  exact ⟨l, by simpa [Value.cells] using e, h1, h2, by omega⟩
set_option maxRecDepth 100000 in
theorem open_u81 {H : Type} {enc : TypeId × Value → H} {w : World} {base : Nat} {spare : Nat → Bool} {held : Bool} {v : Value} {d : DataW H} {ps : List MemPlace} {r : Reach} {b0 : Nat} (hv : Value.okWide Tryd.prog w r b0 5 v) (h : DataW.Trod enc Tryd.prog w base spare held 5 v d ps) :
    ∃ n : Int, v = .int .u8 n ∧ IntKind.min .u8 ≤ n ∧ n ≤ IntKind.max .u8 ∧ 1 ≤ Rows.uptoBulk d := by
  obtain ⟨s, rfl⟩ := okWide_int Tryd.underlying5 hv
  obtain ⟨fuel, hf⟩ := h
  obtain ⟨l, e, h1, h2, hw⟩ := open_intc Tryd.underlying5 hf
  dsimp only at hw
  exact ⟨l, by simpa [Value.cells] using e, h1, h2, by omega⟩
set_option maxRecDepth 100000 in
theorem open_bool1 {H : Type} {enc : TypeId × Value → H} {w : World} {base : Nat} {spare : Nat → Bool} {held : Bool} {v : Value} {d : DataW H} {ps : List MemPlace} {r : Reach} {b0 : Nat} (hv : Value.okWide Tryd.prog w r b0 4 v) (h : DataW.Trod enc Tryd.prog w base spare held 4 v d ps) :
    ∃ n : Bool, v = .bool n ∧ 1 ≤ Rows.uptoBulk d := by
  obtain ⟨s, rfl⟩ := okWide_bool Tryd.underlying4 hv
  obtain ⟨fuel, hf⟩ := h
  obtain ⟨l, e, hw⟩ := open_boolc Tryd.underlying4 hf
  dsimp only at hw
  exact ⟨l, by simpa [Value.cells] using e, by omega⟩
end Go.Proofs.YthgbpgjpnaanlaaDoor

/-
  Readings of arguments of one cell: texts.
-/
set_option linter.unusedSimpArgs false
set_option linter.unusedVariables false
set_option linter.unnecessarySimpa false
namespace Go.Proofs.YthgbpgjpnaanlaaDoor
open Go Go.Sv Go.RowKit Go.ChangeShapes Go.WideShapes Go.Deep
section
variable {H : Type} {enc : TypeId × Value → H} {w : World} {base : Nat} {spare : Nat → Bool} {held : Bool}
set_option maxRecDepth 100000 in
theorem open_str1 {v : Value} {d : DataW H} {ps : List MemPlace} {r : Reach} {b0 : Nat} (hv : Value.okWide Tryd.prog w r b0 9 v) (h : DataW.Trod enc Tryd.prog w base spare held 9 v d ps) :
    ∃ l : List UInt8, v = str l ∧ l.length + 1 ≤ Rows.uptoBulk d := by
  obtain ⟨s, rfl⟩ := okWide_string Tryd.underlying9 hv
  obtain ⟨fuel, hf⟩ := h
  obtain ⟨l, e, hw⟩ := open_strc Tryd.underlying9 hf
  dsimp only at hw
  exact ⟨l, by simpa [Value.cells] using e, by omega⟩
end
end Go.Proofs.YthgbpgjpnaanlaaDoor

/-
  What a row's list says of the table of blanks; a world for the witness.
-/
set_option linter.unusedSimpArgs false
set_option linter.unusedVariables false
set_option linter.unnecessarySimpa false
namespace Go.Proofs.YthgbpgjpnaanlaaDoor
open Go Go.Sv Go.RowKit Go.ChangeShapes Go.WideShapes Go.ChangeAt

theorem laid_at {P : Program} {W : World} {name : String} {d : DataW Unit} : ∀ {laid : List (String × DataW Unit)} {ps : List MemPlace}, DataW.LaidVars P W laid ps → (name, d) ∈ laid →
    ∃ g t cs fuel p, P.globalNamed name = some g ∧ (P.globals[g]?).map (·.type) = some t ∧ W.var? P name = some cs ∧ DataW.trod (fun _ => ()) P W 0 (fun _ => true) false fuel t cs.toList = some (d, p)
  | [], _, _, hm => by cases hm
  | x :: laid, ps, h, hm => by
    obtain ⟨g', t', cs, fuel, p, q, hg', ht', hvar, hd, hr, _⟩ := h
    rcases List.mem_cons.1 hm with rfl | hm
    · exact ⟨g', t', cs, fuel, p, hg', ht', hvar, hd⟩
    · exact laid_at hr hm
theorem gAscType : (Tryd.prog.globals[0]?).map (·.type) = some 160 := by kernel_rfl
set_option maxRecDepth 100000 in
theorem asc_of {W : World} {laid : List (String × DataW Unit)} (h : laidMet Tryd.prog laid W) (hm : ("strings.asciiSpace", Rows.laid_strings_asciiSpace) ∈ laid) : Asc W := by
  obtain ⟨ps, hL, _⟩ := h
  obtain ⟨g', t', cs, fuel, p, hg', ht', hvar, hd⟩ := laid_at hL hm
  obtain rfl := Option.some.inj (gAsc.symm.trans hg')
  obtain rfl := Option.some.inj (gAscType.symm.trans ht')
  have e : (Rows.laid_strings_asciiSpace : DataW Unit) = Lib.tabData .u8 Lib.asciiSpaceTab := by kernel_rfl
  rw [e] at hd
  unfold Asc Lib.TabIs
  rw [hvar, ← Lib.cells_of_tab Tryd.underlying160 Tryd.underlying5 (by kernel_rfl) (by kernel_rfl) hd]
/-- a world for the witness: the variables hold what their initialisers lay -/
noncomputable def ascHeap (h : Array Obj) : Array Obj :=
  (((h.modify 0 fun | .cells _ t f => .cells (Lib.asciiSpaceTab.map fun z => Value.int .u8 z).toArray t f | o => o).modify 1 fun
    | .cells _ t f => .cells #[.pointer (some ⟨h.size, 0, none⟩)] t f | o => o).push (.cells #[.slice (some ⟨h.size + 1, 0, none⟩) 7 7, .slice none 0 0, .int .i64 2] 201 (0, 0))).push
    (.cells (([9, 13, 1, 32, 133, 101, 160, 5760, 5600, 8192, 8202, 1, 8232, 8233, 1, 8239, 8287, 48, 12288, 12288, 1] : List Int).map fun z => Value.int .u16 z).toArray 204 (0, 0))
noncomputable def ascWorld (os : Os) : World := { World.holding Tryd.prog os ⟨#[], #[], []⟩ with heap := ascHeap (World.holding Tryd.prog os ⟨#[], #[], []⟩).heap }
end Go.Proofs.YthgbpgjpnaanlaaDoor

