/-
  Our texts SvFf, SvFg, SvFh, SvFi, SvFj, SvFk, SvPost, SvOpen, SvOpnAt, SvOpn18, SvOpnB, SvOpn, SvAsc, joined.
-/
import Derived.Test.YthgbpgjpnaanlaaDoorMg4
import Derived.ChangeSame
import Derived.Test.YthgbpgjpnaanlaaDoorRows
import Derived.WalkKit
import Derived.ProofKit
import Derived.OpenShut
import Derived.JoinedCond
import Derived.Deep.Slices
import Derived.WideKeyArgs
import Derived.Lib.LaidTab
import Derived.Deep.DeepHandedRow
import Derived.Deep.DeepWitnessRowRef
/-
  Package event: Fold.
-/
set_option linter.unusedSimpArgs false
set_option linter.unusedVariables false
set_option linter.unnecessarySimpa false
namespace Go.Sv
open Go Go.RowKit
theorem y_salloc {P : Program} {σ : Env} {w0 w : World} {cs : List Plot} {ty e : TypeId} {pos : String} {af : Array Edge} {g : Option (Nat × Bool)} {d : Option Tmp} {zv : Value} {size bytes : Nat} [hi : Inf P e zv size bytes] (hS : Sep w0 w cs) :
    ∃ b w', Y P σ ⟨d, .alloc e, ty, pos, af, g⟩ w (ptrAt (pb b) 0) w' ∧ Sep w0 w' (pOwn b zv.cells.toList :: cs) := by
  refine ⟨w.heap.size, w.alloc (.cells zv.cells e), Y.val ?_, hS.push (frm_alloc _ _) (own_alloc _ _ _) (by simp [pOwn])⟩
  simp [execOp, Instr.alloc, Sem.run_bind, run_zeroValue (P := P) (t := e), newVar, newRow]
  rfl
/-- a guarded operation whose guard says yes -/
theorem wlgt {P : Program} {n : Nat} {ds : Ctx} {ops : Array Oper} {Q : Exit → Ctx → Env → World → Prop} {rest : List Oper} {σ : GE} {w w' : World} {d : Nat} {op : Op} {ty : TypeId} {pos : String} {af : Array Edge} {j dj : Nat} {want b c : Bool} {v : Value}
    (hy : Y P (real σ) ⟨some d, op, ty, pos, af, some (j, want)⟩ w v w') (h : WL P n ds ops Q rest (real (updG σ d ⟨v, true⟩)) w')
    (hj : (ops[j]?).bind (·.dst) = some dj := by rfl) (hσ : σ dj = ⟨.bool c, b⟩ := by rfl) (hgt : (b && (c == want)) = true) :
    WL P n ds ops Q (⟨some d, op, ty, pos, af, some (j, want)⟩ :: rest) (real σ) w := by
  have hw := wanted_real (ops := ops) (o := ⟨some d, op, ty, pos, af, some (j, want)⟩) rfl hj hσ
  rw [hgt] at hw
  refine WL_want hw hy ?_
  rw [← real_upd] at h
  exact h
end Go.Sv
namespace Go.Proofs.YthgbpgjpnaanlaaDoor
open Go Go.Sv Go.RowKit
/-- a node, without where it lies -/
def NdM.nd (m : NdM) : Nd := ⟨m.name, m.text, m.attrs, m.kids.fo⟩
theorem fo_list (f : FoM) : f.fo = Fo.of (f.list.map NdM.nd) := by
  induction f with
  | nil => rfl
  | cons n t es ap ac ks kp kc r _ ih => simp only [FoM.fo, FoM.list, List.map_cons, Fo.of, NdM.nd, ih]
theorem fo_of (L : List NdM) : (FoM.of L).fo = Fo.of (L.map NdM.nd) := by rw [fo_list, FoM.list_of]
theorem len_of (L : List NdM) : (FoM.of L).len = L.length := by rw [FoM.len, FoM.list_of]
theorem rows_of (L : List NdM) : (FoM.of L).rows = L.flatMap NdM.rows := by rw [rows_eq, FoM.list_of]
theorem nds_flat (L : List NdM) (m : NdM) : L.flatMap NdM.cells ++ m.cells = (L ++ [m]).flatMap NdM.cells := by simp
/-- a node's rows to the others -/
theorem Sep.node {w0 w : World} {cs : List Plot} {m : NdM} {L : List NdM} (h : Sep w0 w (pRow 2 m.ap m.attrs.length m.ac (m.attrs.flatMap At.cells) :: pRow 4 m.kp m.kids.len m.kc (m.kids.list.flatMap NdM.cells) :: pMany m.kids.rows :: pMany (L.flatMap NdM.rows) :: cs)) : Sep w0 w (pMany ((L ++ [m]).flatMap NdM.rows) :: cs) := by
  have h1 := (((h.front 3 rfl).front 1 rfl).more).front 1 rfl
  have h2 := h1.more.front 1 rfl
  have h3 := h2.both
  have e : (L ++ [m]).flatMap NdM.rows = L.flatMap NdM.rows ++ [⟨2, m.ap, m.attrs.length, m.ac, m.attrs.flatMap At.cells⟩] ++ [⟨4, m.kp, m.kids.len, m.kc, m.kids.list.flatMap NdM.cells⟩] ++ m.kids.rows := by simp [NdM.rows]
  rw [e]; exact h3
/-- a text, as a node -/
def txtM (t : List UInt8) : NdM := ⟨[], t, [], none, 0, .nil, none, 0⟩
def txl (ms : List EvM) (i : Nat) : Nat := (((evs ms).take i).map fun e => e.text.length).sum
theorem txl_succ {ms : List EvM} {i : Nat} {m : EvM} (h : ms[i]? = some m) : txl ms (i + 1) = txl ms i + m.e.text.length := by
  unfold txl
  rw [List.take_add_one, evs_at h, List.map_append, List.sum_append]; simp
theorem txl_le {ms : List EvM} {B : Nat} (hw : evw ms ≤ B) (i : Nat) : txl ms i ≤ B := by
  have h2 := sum_take_le (fun e : Ev => e.text.length) (evs ms) i
  have h3 : ((evs ms).map fun e => e.text.length).sum ≤ evw ms := by
    unfold evs evw
    rw [List.map_map]
    clear hw h2
    induction ms with
    | nil => simp
    | cons m ms ih =>
      simp only [List.map_cons, List.sum_cons, Function.comp]
      have : m.e.text.length ≤ m.e.wt := by unfold Ev.wt; omega
      omega
  exact Nat.le_trans h2 (Nat.le_trans h3 hw)
theorem txl_mono {ms : List EvM} {i j : Nat} (h : i ≤ j) : txl ms i ≤ txl ms j := by
  have := sum_take_le (fun e : Ev => e.text.length) ((evs ms).take j) i
  rw [List.take_take, Nat.min_eq_left h] at this
  exact this
theorem flat_text (l : List NdM) (m : NdM) (v : List UInt8) : ((l ++ [m]).flatMap NdM.cells).take (l.length * 4 + 1) ++ [str v] ++ ((l ++ [m]).flatMap NdM.cells).drop (l.length * 4 + 1 + 1) = (l ++ [{ m with text := v }]).flatMap NdM.cells := by
  have hF := fm_len NdM.clen l
  rw [List.flatMap_append, List.flatMap_append]
  generalize l.flatMap NdM.cells = F at *
  rw [← hF, List.take_append, List.drop_append, List.take_of_length_le (by omega), List.drop_eq_nil_of_le (by omega)]
  rw [show F.length + 1 - F.length = 1 by omega, show F.length + 1 + 1 - F.length = 2 by omega]
  simp [NdM.cells]
def vdP (b5 : Nat) (q mp : Option Addr) (cc mc : Nat) (L : List NdM) (nm : List UInt8) (es : List At) : PlanB (Option Addr × Nat) where
  pl k d := match k with
    | 5 => [pRow 2 d.x.1 es.length d.x.2 (es.flatMap At.cells)]
    | 7 => [pOwn d.b [str nm, str [], .slice d.x.1 es.length d.x.2, .slice none 0 0]]
    | 8 => [pRow 4 d.p (L.length + 1) d.c (L.flatMap NdM.cells ++ [str nm, str [], .slice d.x.1 es.length d.x.2, .slice none 0 0])]
    | _ => []
  con k := match k with
    | 7 => some 8
    | _ => none
  base k := match k with
    | 8 => [pRow 4 q L.length cc (L.flatMap NdM.cells)]
    | _ => []
  fact k a := match k with
    | 0 => (a 0).v = .slice q L.length cc
    | 1 => (a 1).v = ptrAt (pb b5) 1
    | 2 => (a 2).v = str nm
    | 3 => (a 3).v = ptrAt (pb b5) 3
    | 4 => (a 4).v = .slice mp es.length mc
    | 5 => (a 5).v = .slice (a 5).x.1 es.length (a 5).x.2
    | 6 => (a 6).v = .agg ⟨[str nm, str [], .slice (a 6).x.1 es.length (a 6).x.2, .slice none 0 0]⟩ ∧ (a 6).x = (a 5).x
    | 7 => (a 7).v = .slice (pb (a 7).b) 1 1 ∧ (a 7).x = (a 6).x
    | 8 => (a 8).v = .slice (a 8).p (L.length + 1) (a 8).c ∧ (a 8).x = (a 7).x
    | 9 => (a 9).v = .slice (a 8).p (L.length + 1) (a 8).c
    | _ => True
def opP (b5 : Nat) (mp : Option Addr) (mc : Nat) (nm : List UInt8) (es : List At) : PlanB (Option Addr × Nat) where
  pl k d := match k with
    | 4 => [pRow 2 d.x.1 es.length d.x.2 (es.flatMap At.cells)]
    | 6 => [pOwn d.b [str [], str [], .slice none 0 0, .slice none 0 0]]
    | 7 => [pOwn d.b [str nm, str [], .slice d.x.1 es.length d.x.2, .slice none 0 0]]
    | _ => []
  con k := match k with
    | 6 => some 7
    | _ => none
  base k := match k with
    | _ => []
  fact k a := match k with
    | 0 => (a 0).v = ptrAt (pb b5) 1
    | 1 => (a 1).v = str nm
    | 2 => (a 2).v = ptrAt (pb b5) 3
    | 3 => (a 3).v = .slice mp es.length mc
    | 4 => (a 4).v = .slice (a 4).x.1 es.length (a 4).x.2
    | 5 => (a 5).v = .agg ⟨[str nm, str [], .slice (a 5).x.1 es.length (a 5).x.2, .slice none 0 0]⟩ ∧ (a 5).x = (a 4).x
    | 6 => (a 6).v = ptrAt (pb (a 6).b) 0
    | 7 => (a 7).b = (a 6).b ∧ (a 7).x = (a 5).x
    | _ => True
set_option maxHeartbeats 4000000 in
theorem kids_ok (ms : List EvM) (p : Option Addr) (c : Nat) (hw : evw ms ≤ 2097152) (hn : ms.length ≤ 1048576) (hs : ∀ m ∈ ms, m.e.small) (b0 b1 b2 : Nat) (w0 : World) (hE : Evs w0 p ms) : ∀ (k i0 : Nat), ms.length - i0 ≤ k → i0 ≤ ms.length → ∀ (w : World) (cs : List Plot),
    Sep w0 w (pOwn b0 [int i0] :: pOwn b1 [.slice p ms.length c] :: pOwn b2 [.func (.func 54) #[] #[ptrAt (pb b0) 0, ptrAt (pb b1) 0, ptrAt (pb b2) 0]] :: cs) →
    CallsR Tryd.prog 54 #[ptrAt (pb b0) 0, ptrAt (pb b1) 0, ptrAt (pb b2) 0] w fun v w' => ∃ (q : Option Addr) (cc : Nat) (L : List NdM) (j : Nat), v = .slice q L.length cc ∧ L.map NdM.nd = (foldF ((evs ms).drop i0) []).1 ∧ i0 ≤ j ∧ j ≤ ms.length ∧ L.length ≤ ms.length ∧ (foldF ((evs ms).drop i0) []).2 = (evs ms).drop j ∧
      Sep w0 w' (pRow 4 q L.length cc (L.flatMap NdM.cells) :: pMany (L.flatMap NdM.rows) :: pOwn b0 [int j] :: pOwn b1 [.slice p ms.length c] :: pOwn b2 [.func (.func 54) #[] #[ptrAt (pb b0) 0, ptrAt (pb b1) 0, ptrAt (pb b2) 0]] :: cs) := by
  intro k
  induction k with
  | zero =>
    intro i0 hk hi0 w cs hS
    obtain rfl : i0 = ms.length := by omega
    have hd : (evs ms).drop ms.length = [] := by rw [← evs_len, List.drop_length]
    rw [hd]
    refine enter (l := [ptrAt (pb b0) 0, ptrAt (pb b1) 0, ptrAt (pb b2) 0]) Tryd.func54 rfl Tryd.ntmps54 (by kernel_rfl) rfl ?_
    refine sgo ?_
    refine wcloop (X := Unit) (fun x => [(0, ptrAt (pb b0) 0), (1, ptrAt (pb b1) 0), (4, .slice none 0 0)]) (fun _ wr => wr = w) (fun _ => 0) () ⟨rfl, rfl, rfl, trivial⟩ rfl ?_
    rintro _ wr ρ rfl
    refine sgo ?_
    (show WC _ _ _ _ _ _ _; first | refine WC_dec rfl (fun hc => ?_) (fun hc => ?_) | refine WC_cond rfl (fun hc => ?_) (fun hc => ?_))
    · omega
    refine sgo ?_
    (first | refine fp1 (.inl rfl) rfl rfl ?_ | refine fp2 (.inl rfl) rfl rfl rfl ?_ | refine fp3 (.inl rfl) rfl rfl rfl rfl ?_ | refine fp0 (.inr rfl) rfl ?_ | refine fp0 (.inl rfl) rfl ?_ | refine fp1 (.inr rfl) rfl rfl ?_)
    exact ⟨none, 0, [], ms.length, rfl, rfl, Nat.le_refl _, Nat.le_refl _, Nat.zero_le _, hd.symm ▸ rfl, (hS.zero.push (c := pRow 4 none 0 0 []) (Frm.refl _) (Row.nil _ 4) (rb_nil _))⟩
  | succ k ih =>
    intro i0 hk hi0 w cs hS0
    have hS := (hS0.zero).push (c := pRow 4 none 0 0 []) (Frm.refl _) (Row.nil _ 4) (rb_nil _)
    refine enter (l := [ptrAt (pb b0) 0, ptrAt (pb b1) 0, ptrAt (pb b2) 0]) Tryd.func54 rfl Tryd.ntmps54 (by kernel_rfl) rfl ?_
    refine sgo ?_
    refine wcloop (X := Nat × Option Addr × Nat × List NdM) (fun x => [(0, ptrAt (pb b0) 0), (1, ptrAt (pb b1) 0), (2, ptrAt (pb b2) 0), (4, .slice x.2.1 x.2.2.2.length x.2.2.1)])
      (fun x wr => i0 ≤ x.1 ∧ x.1 ≤ ms.length ∧ x.2.2.2.length ≤ x.1 ∧ (∀ m ∈ x.2.2.2, m.text.length ≤ txl ms x.1) ∧ foldF ((evs ms).drop i0) [] = foldF ((evs ms).drop x.1) (x.2.2.2.map NdM.nd) ∧
        Sep w0 wr (pRow 4 x.2.1 x.2.2.2.length x.2.2.1 (x.2.2.2.flatMap NdM.cells) :: pMany (x.2.2.2.flatMap NdM.rows) :: pOwn b0 [int x.1] :: pOwn b1 [.slice p ms.length c] :: pOwn b2 [.func (.func 54) #[] #[ptrAt (pb b0) 0, ptrAt (pb b1) 0, ptrAt (pb b2) 0]] :: cs))
      (fun x => ms.length - x.1) (i0, none, 0, []) ⟨rfl, rfl, rfl, rfl, trivial⟩ ⟨Nat.le_refl _, hi0, Nat.zero_le _, (fun m hm => by cases hm), rfl, hS⟩ ?_
    clear hS hS0
    rintro ⟨i, q, cc, L⟩ wr ρ ⟨hi0i, hil, hLi, htx, hfo, hS⟩
    dsimp only at *
    refine sgo ?_
    (show WC _ _ _ _ _ _ _; first | refine WC_dec rfl (fun hc => ?_) (fun hc => ?_) | refine WC_cond rfl (fun hc => ?_) (fun hc => ?_))
    · have hlt : i < ms.length := by omega
      have hIm := (hE.frm hS.frm).im
      have hx : ms[i]? = some ms[i] := List.getElem?_eq_getElem hlt
      have hmem : ms[i] ∈ ms := List.getElem_mem hlt
      have hseg := fm_seg EvM.len ms hx
      have hfl := fm_len EvM.len ms
      have hat := hE.each _ hmem
      have hsm := hs _ hmem
      have hps : ∃ a, p = some a := hE.im.sg.some (by omega)
      have htl := txl_succ hx
      have htl2 := txl_le hw (i + 1)
      have hdr : (evs ms).drop i = ms[i].e :: (evs ms).drop (i + 1) := by
        have := evs_at hx
        obtain ⟨h1, h2⟩ := List.getElem?_eq_some_iff.1 this
        rw [List.drop_eq_getElem_cons h1, h2]
      rw [hdr, foldF_cons] at hfo
      generalize ms[i] = m at *
      clear hc
      obtain ⟨⟨kd, nm, tx, es⟩, mp, mc⟩ := m
      have hes := hsm.attrs
      dsimp only at hfo htl hes hat
      refine sgo ?_
      rw [hseg]
      refine salloc hS fun b5 w5 hS => ?_
      refine sgo ?_
      refine ssta (vs := [int kd, str nm, str tx, .slice mp es.length mc]) hS 0 fun w6 hS => ?_
      replace hS : Sep w0 w6 (pOwn b5 [int kd, str nm, str tx, .slice mp es.length mc] :: pRow 4 q L.length cc (L.flatMap NdM.cells) :: pMany (L.flatMap NdM.rows) :: pOwn b0 [int i] :: pOwn b1 [.slice p ms.length c] :: pOwn b2 [.func (.func 54) #[] #[ptrAt (pb b0) 0, ptrAt (pb b1) 0, ptrAt (pb b2) 0]] :: cs) := hS
      refine sgo ?_
      refine sst_int hS 3 fun w7 hS => ?_
      have e1 : (i : Int) + 1 = ((i + 1 : Nat) : Int) := by omega
      rw [e1] at hS ⊢
      replace hS : Sep w0 w7 (pOwn b5 [int kd, str nm, str tx, .slice mp es.length mc] :: pRow 4 q L.length cc (L.flatMap NdM.cells) :: pMany (L.flatMap NdM.rows) :: pOwn b0 [int ((i + 1 : Nat) : Int)] :: pOwn b1 [.slice p ms.length c] :: pOwn b2 [.func (.func 54) #[] #[ptrAt (pb b0) 0, ptrAt (pb b1) 0, ptrAt (pb b2) 0]] :: cs) := hS
      refine sgo ?_
      by_cases h0 : kd = 0
      · subst h0
        rw [if_pos rfl] at hfo
        refine sgo ?_
        by_cases hL : L = []
        · subst hL
          refine sgo ?_
          refine wlskipg (.pointer none) ?_ (hgt := by simp)
          refine wlskipg (.pointer none) ?_ (hgt := by simp)
          refine wlskipg (str []) ?_ (hgt := by simp)
          refine wlskipg (.bool false) ?_ (hgt := by simp)
          refine sgo ?_
          refine wlbuild ?_
          refine sb1a (vs := (txtM tx).cells) hS fun b6 w8 hS => ?_
          refine sgo ?_
          refine sapp hS 2 (hS.own 0 rfl).sg (fun p' c' w9 hS => ?_) (h1 := nd_one _)
          rw [nds_flat, show ([] : List NdM).length + 1 = (([] : List NdM) ++ [txtM tx]).length from by simp] at hS
          have h5 := (((hS.drop 0 rfl).drop 0 rfl).front 1 rfl)
          have h6 := Sep.node (m := txtM tx) (((h5.zero).push (c := pRow 4 none 0 0 []) (Frm.refl _) (Row.nil _ 4) (rb_nil _)).push (c := pRow 2 none 0 0 []) (Frm.refl _) (Row.nil _ 2) (rb_nil _))
          refine sgo ?_
          refine ⟨(i + 1, p', c', [] ++ [txtM tx]), ⟨rfl, rfl, rfl, ?_, trivial⟩, ⟨by omega, hlt, by dsimp only; rw [List.length_append]; simp, ?_, ?_, h6.front 1 rfl⟩, (by (try dsimp only); omega)⟩
          · dsimp only; rw [List.length_append]; rfl
          · intro m hm
            rcases List.mem_append.1 hm with hm | hm
            · cases hm
            · rw [List.mem_singleton.1 hm]; dsimp only [txtM]; omega
          · rw [hfo, show pushT (List.map NdM.nd []) tx = _ from rfl, List.map_append]; rfl
        · have hpos : 0 < L.length := List.length_pos_iff.2 hL
          have hx0 : L[L.length - 1]? = some (L[L.length - 1]'(by omega)) := List.getElem?_eq_getElem (by omega)
          have hm0 : L[L.length - 1]'(by omega) ∈ L := List.getElem_mem _
          have hg0 := fm_get NdM.clen L (L.length - 1) 0 (by decide)
          have hg1 := fm_get NdM.clen L (L.length - 1) 1 (by decide)
          have hsp : L = L.take (L.length - 1) ++ [L[L.length - 1]'(by omega)] := by
            have h := List.take_append_drop (L.length - 1) L
            rw [List.drop_eq_getElem_cons (by omega)] at h
            have h2 : L.drop (L.length - 1 + 1) = [] := List.drop_eq_nil_of_le (by omega)
            rw [h2] at h
            exact h.symm
          rw [hx0] at hg0 hg1
          have hmt := htx _ hm0
          have hfl2 := fm_len NdM.clen L
          have hqs : ∃ a, q = some a := (hS.row 1 rfl).sg.some (by omega)
          generalize L[L.length - 1]'(by omega) = m0 at *
          have e9 : ((L.length : Int) - 1).toNat = L.length - 1 := by omega
          rw [← e9] at hg0 hg1
          replace hg0 : (L.flatMap NdM.cells)[((L.length : Int) - 1).toNat * 4]? = some (str m0.name) := hg0
          replace hg1 : (L.flatMap NdM.cells)[((L.length : Int) - 1).toNat * 4 + 1]? = some (str m0.text) := hg1
          have hsgq : Sg w7 q (L.flatMap NdM.cells) := (hS.row 1 rfl).sg
          have hgd : (true && (decide ((0 : Int) < (L.length : Int)) == true)) = true := by simp; omega
          refine wlgt (y_idxI (n := L.length) (i := (L.length : Int) - 1) (evG hgd) (evG hgd) ⟨by omega, by omega⟩ hqs) ?_ (hgt := hgd)
          refine wlgt (y_field rfl hqs (by decide)) ?_ (hgt := hgd)
          refine wlgt (y_load rfl hsgq hg0) ?_ (hgt := hgd)
          refine wlgt (y_seql rfl rfl) ?_ (hgt := hgd)
          refine sgo ?_
          by_cases hn0 : m0.name = []
          · refine wcyes ?_ (ht := by simp [pkb, hn0]; omega)
            refine WC_seq ?_
            refine sgo ?_
            refine wcdrawt 11 ?_
            refine qgo ?_
            refine QL_nil ?_
            intro w8 hf8
            replace hS := hS.grow hf8
            refine srst (v := str (m0.text ++ tx)) (j := ((L.length : Int) - 1).toNat * 4 + 1) hS 1 (fun w9 hS => ?_) (hk := by rw [hfl2]; omega)
            have hll : (L.take (L.length - 1)).length = L.length - 1 := by rw [List.length_take]; omega
            have hft := flat_text (L.take (L.length - 1)) m0 (m0.text ++ tx)
            rw [← hsp, hll] at hft
            rw [e9] at hS
            replace hS : Sep w0 w9 (pOwn b5 [int 0, str nm, str tx, .slice mp es.length mc] :: pRow 4 q L.length cc ((L.take (L.length - 1) ++ [{ m0 with text := m0.text ++ tx }]).flatMap NdM.cells) :: pMany (L.flatMap NdM.rows) :: pOwn b0 [int ((i + 1 : Nat) : Int)] :: pOwn b1 [.slice p ms.length c] :: pOwn b2 [.func (.func 54) #[] #[ptrAt (pb b0) 0, ptrAt (pb b1) 0, ptrAt (pb b2) 0]] :: cs) := by rw [← hft]; exact hS
            have hl9 : (L.take (L.length - 1) ++ [{ m0 with text := m0.text ++ tx }]).length = L.length := by rw [List.length_append, hll]; simp; omega
            have hr9 : (L.take (L.length - 1) ++ [{ m0 with text := m0.text ++ tx }]).flatMap NdM.rows = L.flatMap NdM.rows := by
              conv => rhs; rw [hsp]
              rw [List.flatMap_append, List.flatMap_append]; rfl
            refine sgo ?_
            refine ⟨(i + 1, q, cc, L.take (L.length - 1) ++ [{ m0 with text := m0.text ++ tx }]), ⟨rfl, rfl, rfl, ?_, trivial⟩, ⟨by omega, hlt, by dsimp only; omega, ?_, ?_, ?_⟩, (by (try dsimp only); omega)⟩
            · dsimp only; rw [hl9]; rfl
            · intro m2 hm
              rcases List.mem_append.1 hm with hm | hm
              · have := htx m2 (List.mem_of_mem_take hm); dsimp only; omega
              · rw [List.mem_singleton.1 hm]; dsimp only; rw [List.length_append]; omega
            · rw [hfo]
              conv => lhs; rw [hsp]
              rw [List.map_append, List.map_append]
              show foldF _ (pushT (List.map NdM.nd (L.take (L.length - 1)) ++ [m0.nd]) tx) = _
              rw [pushT_snoc, if_pos (show m0.nd.name = [] from hn0)]; rfl
            · dsimp only; rw [hl9, hr9]; exact hS.tail
          · refine wcno ?_ (ht := by simp [pkb, hn0])
            refine sgo ?_
            refine wlbuild ?_
            refine sb1a (vs := (txtM tx).cells) hS fun b6 w8 hS => ?_
            refine sgo ?_
            refine sapp hS 2 (hS.own 0 rfl).sg (fun p' c' w9 hS => ?_) (h1 := nd_one _)
            rw [nds_flat, show L.length + 1 = (L ++ [txtM tx]).length from by simp] at hS
            have h5 := (((hS.drop 0 rfl).drop 0 rfl).front 1 rfl)
            have h6 := Sep.node (m := txtM tx) (((h5.zero).push (c := pRow 4 none 0 0 []) (Frm.refl _) (Row.nil _ 4) (rb_nil _)).push (c := pRow 2 none 0 0 []) (Frm.refl _) (Row.nil _ 2) (rb_nil _))
            refine sgo ?_
            refine ⟨(i + 1, p', c', L ++ [txtM tx]), ⟨rfl, rfl, rfl, ?_, trivial⟩, ⟨by omega, hlt, by simp; omega, ?_, ?_, h6.front 1 rfl⟩, (by (try dsimp only); omega)⟩
            · dsimp only; rw [List.length_append]; rfl
            · intro m hm
              rcases List.mem_append.1 hm with hm | hm
              · have := htx m hm; dsimp only; omega
              · rw [List.mem_singleton.1 hm]; dsimp only [txtM]; omega
            · rw [hfo, hsp, List.map_append, List.map_append, List.map_append]
              show foldF _ (pushT (List.map NdM.nd (L.take (L.length - 1)) ++ [m0.nd]) tx) = _
              rw [pushT_snoc, if_neg (show ¬ m0.nd.name = [] from hn0)]; rfl
      · refine wcno ?_ (ht := decide_eq_false h0)
        rw [if_neg h0] at hfo
        refine sgo ?_
        by_cases h3 : kd = 3
        · subst h3
          rw [if_pos rfl] at hfo
          refine sgo ?_
          replace hS : Sep w0 w7 ([pRow 4 q L.length cc (L.flatMap NdM.cells)] ++ (pOwn b5 [int 3, str nm, str tx, .slice mp es.length mc] :: pMany (L.flatMap NdM.rows) :: pOwn b0 [int ((i + 1 : Nat) : Int)] :: pOwn b1 [.slice p ms.length c] :: pOwn b2 [.func (.func 54) #[] #[ptrAt (pb b0) 0, ptrAt (pb b1) 0, ptrAt (pb b2) 0]] :: cs)) := hS.front 1 rfl
          refine wcplanb (b := [pRow 4 q L.length cc (L.flatMap NdM.cells)]) (vdP b5 q mp cc mc L nm es) ⟨.nilIface, none, 0, 0, (none, 0)⟩ hS rfl (fun j oj a a' hj he hd h => ?_) ⟨?_, ?_, ?_, ?_, ?_, ?_, ?_, ?_, ?_, ?_, trivial⟩ ?_
          · have hjl : j < 10 := (List.getElem?_eq_some_iff.1 hj).1
            match j, hjl with
            | 0, _ | 1, _ | 2, _ | 3, _ | 4, _ | 5, _ => first | (simp only [vdP] at h ⊢; rw [← he]; exact h) | exact h
            | 6, _ => simp only [vdP] at h ⊢; rw [← he, ← hd 5 (by cases hj; rfl)]; exact h
            | 7, _ => simp only [vdP] at h ⊢; rw [← he, ← hd 6 (by cases hj; rfl)]; exact h
            | 8, _ => simp only [vdP] at h ⊢; rw [← he, ← hd 7 (by cases hj; rfl)]; exact h
            | 9, _ => simp only [vdP] at h ⊢; rw [← he, ← hd 8 (by cases hj; rfl)]; exact h
          · intro a σ' w' rest hσ hdep hS'   -- 0: move; pieces: sees 8 ..
            have e4 : σ' 4 = .slice q L.length cc := (hσ 4 (notDstB rfl)).trans rfl
            exact rule_e [(4, _)] ⟨e4, trivial⟩ ⟨⟨.slice q L.length cc, none, 0, 0, (none, 0)⟩, rfl, rfl, hS'⟩
          · intro a σ' w' rest hσ hdep hS'   -- 1: fieldAddr; pieces:  ..
            have e5 : σ' 5 = ptrAt (pb b5) 0 := (hσ 5 (notDstB rfl)).trans rfl
            exact rule_y (y_field e5 ⟨_, rfl⟩ (by decide)) ⟨⟨ptrAt (pb b5) 1, none, 0, 0, (none, 0)⟩, rfl, rfl, hS'⟩
          · intro a σ' w' rest hσ hdep hS'   -- 2: load; pieces:  ..
            have f1 := (hdep 1 _ rfl rfl).2
            have e56 := ((hdep 1 _ rfl rfl).1 56 rfl).trans f1
            exact rule_y (y_load e56 (Sep.sgv hS' 0 rfl) rfl) ⟨⟨str nm, none, 0, 0, (none, 0)⟩, rfl, rfl, hS'⟩
          · intro a σ' w' rest hσ hdep hS'   -- 3: fieldAddr; pieces:  ..
            have e5 : σ' 5 = ptrAt (pb b5) 0 := (hσ 5 (notDstB rfl)).trans rfl
            exact rule_y (y_field e5 ⟨_, rfl⟩ (by decide)) ⟨⟨ptrAt (pb b5) 3, none, 0, 0, (none, 0)⟩, rfl, rfl, hS'⟩
          · intro a σ' w' rest hσ hdep hS'   -- 4: load; pieces:  ..
            have f3 := (hdep 3 _ rfl rfl).2
            have e58 := ((hdep 3 _ rfl rfl).1 58 rfl).trans f3
            exact rule_y (y_load e58 (Sep.sgv hS' 0 rfl) rfl) ⟨⟨.slice mp es.length mc, none, 0, 0, (none, 0)⟩, rfl, rfl, hS'⟩
          · intro a σ' w' rest hσ hdep hS'   -- 5: call; pieces: sees 8 ..
            have f4 := (hdep 4 _ rfl rfl).2
            have e59 := ((hdep 4 _ rfl rfl).1 59 rfl).trans f4
            refine rule_call (vals := [.slice mp es.length mc]) (cloneAt_ok es mp mc hes w0 w' _ hS' (hat.sep hS')) (fun v w2 hR => ?_) (am1 e59)
            obtain ⟨q2, c2, rfl, -, hS2⟩ := hR
            exact ⟨⟨.slice q2 es.length c2, none, 0, 0, (q2, c2)⟩, rfl, rfl, hS2⟩
          · intro a σ' w' rest hσ hdep hS'   -- 6: build; pieces:  ..
            have f2 := (hdep 2 _ rfl rfl).2
            have e57 := ((hdep 2 _ rfl rfl).1 57 rfl).trans f2
            have f5 := (hdep 5 _ rfl rfl).2
            have e60 := ((hdep 5 _ rfl rfl).1 60 rfl).trans f5
            exact rule_y (y_build (cells := [str nm, str [], .slice (a 5).x.1 es.length (a 5).x.2, .slice none 0 0]) (by rw [bm2 (x := .tmp 57) (y := .tmp 60) e57 e60]; simp [fillL, setSeg, Value.cells])) ⟨⟨.agg ⟨[str nm, str [], .slice (a 5).x.1 es.length (a 5).x.2, .slice none 0 0]⟩, none, 0, 0, (a 5).x⟩, rfl, ⟨rfl, rfl⟩, hS'⟩
          · intro a σ' w' rest hσ hdep hS'   -- 7: buildSlice; pieces: sees 8 ..
            have f6 := (hdep 6 _ rfl rfl).2
            have e61 := ((hdep 6 _ rfl rfl).1 61 rfl).trans f6.1
            obtain ⟨b, w2, hy, hS2⟩ := y_bs1 (P := Tryd.prog) (t := 56) (d := some 62) (x := .tmp 61) (vs := [str nm, str [], .slice (a 6).x.1 es.length (a 6).x.2, .slice none 0 0]) (size := 4) hS' e61 rfl rfl (by decide) (by decide)
            exact rule_y hy ⟨⟨.slice (pb b) 1 1, none, 0, b, (a 6).x⟩, rfl, ⟨rfl, rfl⟩, hS2⟩
          · intro a σ' w' rest hσ hdep hS'   -- 8: call; pieces: takes 7, base 8 ..
            have f0 := (hdep 0 _ rfl rfl).2
            have e55 := ((hdep 0 _ rfl rfl).1 55 rfl).trans f0
            have f7 := (hdep 7 _ rfl rfl).2
            have e62 := ((hdep 7 _ rfl rfl).1 62 rfl).trans f7.1
            obtain ⟨p2, c2, w2, hy, hS2⟩ := y_app (P := Tryd.prog) (t := 56) (t' := 56) (ty := 56) (d := some 63) (x := .tmp 55) (y := .tmp 62) (n := 1) hS' 1 (hS'.own 0 rfl).sg rfl e55 e62 rfl (by simp [Value.oneCell']) rfl (by decide) (by omega)
            exact rule_y hy ⟨⟨.slice p2 (L.length + 1) c2, p2, c2, 0, (a 7).x⟩, rfl, ⟨rfl, rfl⟩, hS2.drop 0 rfl⟩
          · intro a σ' w' rest hσ hdep hS'   -- 9: assign; pieces:  ..
            have f8 := (hdep 8 _ rfl rfl).2
            have e63 := ((hdep 8 _ rfl rfl).1 63 rfl).trans f8.1
            exact rule_e [(63, _)] ⟨e63, trivial⟩ ⟨⟨.slice (a 8).p (L.length + 1) (a 8).c, none, 0, 0, (none, 0)⟩, rfl, rfl, hS'⟩
          · intro a σ' w' hσ hA' hS'
            have f5 := (hA' 5 _ rfl).2
            have f6 := (hA' 6 _ rfl).2.2
            have f7 := (hA' 7 _ rfl).2.2
            have f8 := (hA' 8 _ rfl).2.2
            have h9 := hA' 9 _ rfl
            rw [frameOf (σ := σ') [(0, ptrAt (pb b0) 0), (1, ptrAt (pb b1) 0), (2, ptrAt (pb b2) 0), (4, .slice (a 8).p (L.length + 1) (a 8).c)]
              ⟨(hσ 0 (notDst rfl)).trans rfl, (hσ 1 (notDst rfl)).trans rfl, (hσ 2 (notDst rfl)).trans rfl, (h9.1 4 rfl).trans h9.2, trivial⟩]
            replace hS : Sep w0 w' (pRow 2 (a 5).x.1 es.length (a 5).x.2 (es.flatMap At.cells) :: pRow 4 (a 8).p (L.length + 1) (a 8).c (L.flatMap NdM.cells ++ [str nm, str [], .slice (a 8).x.1 es.length (a 8).x.2, .slice none 0 0]) :: pOwn b5 [int 3, str nm, str tx, .slice mp es.length mc] :: pMany (L.flatMap NdM.rows) :: pOwn b0 [int ((i + 1 : Nat) : Int)] :: pOwn b1 [.slice p ms.length c] :: pOwn b2 [.func (.func 54) #[] #[ptrAt (pb b0) 0, ptrAt (pb b1) 0, ptrAt (pb b2) 0]] :: cs) := hS'
            rw [f8, f7, f6] at hS
            generalize (a 5).x = xx at *
            generalize (a 8).p = p' at *
            generalize (a 8).c = c' at *
            let m : NdM := ⟨nm, [], es, xx.1, xx.2, .nil, none, 0⟩
            rw [show [str nm, str [], Value.slice xx.1 es.length xx.2, Value.slice none 0 0] = m.cells from rfl, nds_flat, show L.length + 1 = (L ++ [m]).length from by simp] at hS
            have h5 := ((hS.drop 2 rfl).front 2 rfl)
            have h6 := h5.front 1 rfl
            have h7 := Sep.node (m := m) (L := L) ((((h6.front 1 rfl).zero).push (c := pRow 4 none 0 0 []) (Frm.refl _) (Row.nil _ 4) (rb_nil _)).front 3 rfl)
            refine sgo ?_
            refine ⟨(i + 1, p', c', L ++ [m]), ⟨rfl, rfl, rfl, ?_, trivial⟩, ⟨by omega, hlt, by dsimp only; rw [List.length_append]; simp; omega, ?_, ?_, h7.front 1 rfl⟩, (by (try dsimp only); omega)⟩
            · dsimp only; rw [List.length_append]; rfl
            · intro m2 hm
              rcases List.mem_append.1 hm with hm | hm
              · have := htx m2 hm; dsimp only; omega
              · rw [List.mem_singleton.1 hm]; exact Nat.zero_le _
            · rw [hfo, List.map_append]; rfl
        · refine wcno ?_ (ht := decide_eq_false h3)
          rw [if_neg h3] at hfo
          refine sgo ?_
          by_cases h1 : kd = 1
          · subst h1
            rw [if_pos rfl] at hfo
            refine sgo ?_
            replace hS : Sep w0 w7 ([] ++ (pOwn b5 [int 1, str nm, str tx, .slice mp es.length mc] :: pRow 4 q L.length cc (L.flatMap NdM.cells) :: pMany (L.flatMap NdM.rows) :: pOwn b0 [int ((i + 1 : Nat) : Int)] :: pOwn b1 [.slice p ms.length c] :: pOwn b2 [.func (.func 54) #[] #[ptrAt (pb b0) 0, ptrAt (pb b1) 0, ptrAt (pb b2) 0]] :: cs)) := hS
            refine wcplanb (b := []) (opP b5 mp mc nm es) ⟨.nilIface, none, 0, 0, (none, 0)⟩ hS rfl (fun j oj a a' hj he hd h => ?_) ⟨?_, ?_, ?_, ?_, ?_, ?_, ?_, ?_, trivial⟩ ?_
            · have hjl : j < 8 := (List.getElem?_eq_some_iff.1 hj).1
              match j, hjl with
              | 0, _ | 1, _ | 2, _ | 3, _ | 4, _ | 6, _ => first | (simp only [opP] at h ⊢; rw [← he]; exact h) | exact h
              | 5, _ => simp only [opP] at h ⊢; rw [← he, ← hd 4 (by cases hj; rfl)]; exact h
              | 7, _ => simp only [opP] at h ⊢; rw [← he, ← hd 5 (by cases hj; rfl), ← hd 6 (by cases hj; rfl)]; exact h
            · intro a σ' w' rest hσ hdep hS'   -- 0: fieldAddr; pieces:  ..
              have e5 : σ' 5 = ptrAt (pb b5) 0 := (hσ 5 (notDstB rfl)).trans rfl
              exact rule_y (y_field e5 ⟨_, rfl⟩ (by decide)) ⟨⟨ptrAt (pb b5) 1, none, 0, 0, (none, 0)⟩, rfl, rfl, hS'⟩
            · intro a σ' w' rest hσ hdep hS'   -- 1: load; pieces:  ..
              have f0 := (hdep 0 _ rfl rfl).2
              have e66 := ((hdep 0 _ rfl rfl).1 66 rfl).trans f0
              exact rule_y (y_load e66 (Sep.sgv hS' 0 rfl) rfl) ⟨⟨str nm, none, 0, 0, (none, 0)⟩, rfl, rfl, hS'⟩
            · intro a σ' w' rest hσ hdep hS'   -- 2: fieldAddr; pieces:  ..
              have e5 : σ' 5 = ptrAt (pb b5) 0 := (hσ 5 (notDstB rfl)).trans rfl
              exact rule_y (y_field e5 ⟨_, rfl⟩ (by decide)) ⟨⟨ptrAt (pb b5) 3, none, 0, 0, (none, 0)⟩, rfl, rfl, hS'⟩
            · intro a σ' w' rest hσ hdep hS'   -- 3: load; pieces:  ..
              have f2 := (hdep 2 _ rfl rfl).2
              have e68 := ((hdep 2 _ rfl rfl).1 68 rfl).trans f2
              exact rule_y (y_load e68 (Sep.sgv hS' 0 rfl) rfl) ⟨⟨.slice mp es.length mc, none, 0, 0, (none, 0)⟩, rfl, rfl, hS'⟩
            · intro a σ' w' rest hσ hdep hS'   -- 4: call; pieces:  ..
              have f3 := (hdep 3 _ rfl rfl).2
              have e69 := ((hdep 3 _ rfl rfl).1 69 rfl).trans f3
              refine rule_call (vals := [.slice mp es.length mc]) (cloneAt_ok es mp mc hes w0 w' _ hS' (hat.sep hS')) (fun v w2 hR => ?_) (am1 e69)
              obtain ⟨q2, c2, rfl, -, hS2⟩ := hR
              exact ⟨⟨.slice q2 es.length c2, none, 0, 0, (q2, c2)⟩, rfl, rfl, hS2⟩
            · intro a σ' w' rest hσ hdep hS'   -- 5: build; pieces:  ..
              have f1 := (hdep 1 _ rfl rfl).2
              have e67 := ((hdep 1 _ rfl rfl).1 67 rfl).trans f1
              have f4 := (hdep 4 _ rfl rfl).2
              have e70 := ((hdep 4 _ rfl rfl).1 70 rfl).trans f4
              exact rule_y (y_build (cells := [str nm, str [], .slice (a 4).x.1 es.length (a 4).x.2, .slice none 0 0]) (by rw [bm2 (x := .tmp 67) (y := .tmp 70) e67 e70]; simp [fillL, setSeg, Value.cells])) ⟨⟨.agg ⟨[str nm, str [], .slice (a 4).x.1 es.length (a 4).x.2, .slice none 0 0]⟩, none, 0, 0, (a 4).x⟩, rfl, ⟨rfl, rfl⟩, hS'⟩
            · intro a σ' w' rest hσ hdep hS'   -- 6: alloc; pieces:  ..
              obtain ⟨b, w2, hy, hS2⟩ := y_salloc (P := Tryd.prog) (e := 71) (d := some 7) hS'
              exact rule_y hy ⟨⟨ptrAt (pb b) 0, none, 0, b, (none, 0)⟩, rfl, rfl, hS2⟩
            · intro a σ' w' rest hσ hdep hS'   -- 7: store; pieces: takes 6 ..
              have f6 := (hdep 6 _ rfl rfl).2
              have e7 := ((hdep 6 _ rfl rfl).1 7 rfl).trans f6
              have f5 := (hdep 5 _ rfl rfl).2
              have e71 := ((hdep 5 _ rfl rfl).1 71 rfl).trans f5.1
              obtain ⟨w2, hy, hS2⟩ := y_sst (P := Tryd.prog) (t := 71) (x := .tmp 7) (y := .tmp 71) hS' 0 rfl e7 e71 rfl (Nat.le_of_ble_eq_true rfl) (by simp [Go.Value.cells, Go.Value.oneCell'])
              exact rule_y hy ⟨⟨undef, none, 0, (a 6).b, (a 5).x⟩, rfl, ⟨rfl, rfl⟩, hS2⟩
            · intro a σ' w' hσ hA' hS'
              have f5 := (hA' 5 _ rfl).2.2
              have h6 := hA' 6 _ rfl
              have f7 := (hA' 7 _ rfl).2
              rw [frameOf (σ := σ') [(0, ptrAt (pb b0) 0), (1, ptrAt (pb b1) 0), (2, ptrAt (pb b2) 0), (4, .slice q L.length cc), (7, ptrAt (pb (a 6).b) 0)]
                ⟨(hσ 0 (notDst rfl)).trans rfl, (hσ 1 (notDst rfl)).trans rfl, (hσ 2 (notDst rfl)).trans rfl, (hσ 4 (notDst rfl)).trans rfl, (h6.1 7 rfl).trans h6.2, trivial⟩]
              replace hS : Sep w0 w' (pRow 2 (a 4).x.1 es.length (a 4).x.2 (es.flatMap At.cells) :: pOwn (a 7).b [str nm, str [], .slice (a 7).x.1 es.length (a 7).x.2, .slice none 0 0] :: pOwn b5 [int 1, str nm, str tx, .slice mp es.length mc] :: pRow 4 q L.length cc (L.flatMap NdM.cells) :: pMany (L.flatMap NdM.rows) :: pOwn b0 [int ((i + 1 : Nat) : Int)] :: pOwn b1 [.slice p ms.length c] :: pOwn b2 [.func (.func 54) #[] #[ptrAt (pb b0) 0, ptrAt (pb b1) 0, ptrAt (pb b2) 0]] :: cs) := hS'
              rw [f7.1, f7.2, f5] at hS
              generalize (a 4).x = xx at *
              generalize (a 6).b = b7 at *
              have hsf : Sg w' (pb b2) [.func (.func 54) #[] #[ptrAt (pb b0) 0, ptrAt (pb b1) 0, ptrAt (pb b2) 0]] := (hS.own 7 rfl).sg
              replace hS := ((hS.front 7 rfl).front 7 rfl).front 7 rfl
              refine sgo ?_
              refine wlcallv (f := 54) (first := []) (args := []) (cap := [ptrAt (pb b0) 0, ptrAt (pb b1) 0, ptrAt (pb b2) 0]) (ih (i + 1) (by omega) hlt w' _ hS) ?_
              rintro _ w9 ⟨qk, ck, Lk, j, rfl, hk1, hj1, hj2, hkl, hk2, hS⟩
              refine sgo ?_
              refine sst_slice hS 6 fun w10 hS => ?_
              let m : NdM := ⟨nm, [], es, xx.1, xx.2, .of Lk, qk, ck⟩
              have hmc : m.cells = [str nm, str [], .slice xx.1 es.length xx.2, .slice qk Lk.length ck] := by simp only [m, NdM.cells, len_of]
              replace hS : Sep w0 w10 (pRow 4 qk Lk.length ck (Lk.flatMap NdM.cells) :: pMany (Lk.flatMap NdM.rows) :: pOwn b0 [int j] :: pOwn b1 [.slice p ms.length c] :: pOwn b2 [.func (.func 54) #[] #[ptrAt (pb b0) 0, ptrAt (pb b1) 0, ptrAt (pb b2) 0]] :: pRow 2 xx.1 es.length xx.2 (es.flatMap At.cells) :: pOwn b7 [str nm, str [], .slice xx.1 es.length xx.2, .slice qk Lk.length ck] :: pOwn b5 [int 1, str nm, str tx, .slice mp es.length mc] :: pRow 4 q L.length cc (L.flatMap NdM.cells) :: pMany (L.flatMap NdM.rows) :: cs) := hS
              replace hS := (hS.front 6 rfl)
              refine sgo ?_
              refine sb1a (vs := [str nm, str [], .slice xx.1 es.length xx.2, .slice qk Lk.length ck]) hS fun b8 w11 hS => ?_
              refine sgo ?_
              refine sapp hS 9 (hS.own 0 rfl).sg (fun p' c' w12 hS => ?_) (h1 := by simp [Value.oneCell'])
              rw [← hmc, nds_flat, show L.length + 1 = (L ++ [m]).length from by simp] at hS
              have h5 := (((((((hS.drop 0 rfl).drop 0 rfl).drop 6 rfl).front 6 rfl).front 7 rfl).front 3 rfl).front 3 rfl).front 7 rfl
              have h6 := Sep.node (m := m) (L := L) (w0 := w0) (w := w12) (cs := pRow 4 p' (L ++ [m]).length c' ((L ++ [m]).flatMap NdM.cells) :: pOwn b0 [int j] :: pOwn b1 [.slice p ms.length c] :: pOwn b2 [.func (.func 54) #[] #[ptrAt (pb b0) 0, ptrAt (pb b1) 0, ptrAt (pb b2) 0]] :: cs) (by simp only [m, len_of, FoM.list_of, rows_of]; exact h5)
              have htm := txl_mono (ms := ms) (show i ≤ j by omega)
              refine sgo ?_
              refine ⟨(j, p', c', L ++ [m]), ⟨rfl, rfl, rfl, ?_, trivial⟩, ⟨by omega, hj2, by dsimp only; rw [List.length_append]; simp; omega, ?_, ?_, h6.front 1 rfl⟩, (by (try dsimp only); omega)⟩
              · dsimp only; rw [List.length_append]; rfl
              · intro m2 hm
                rcases List.mem_append.1 hm with hm | hm
                · have := htx m2 hm; dsimp only; omega
                · rw [List.mem_singleton.1 hm]; exact Nat.zero_le _
              · rw [hfo, hk2, ← hk1, List.map_append]
                show _ = foldF _ (_ ++ [m.nd])
                rw [show m.nd = ⟨nm, [], es, Fo.of (Lk.map NdM.nd)⟩ from by simp only [m, NdM.nd, fo_of]]
          · refine wcno ?_ (ht := decide_eq_false h1)
            rw [if_neg h1] at hfo
            refine sgo ?_
            (first | refine fp1 (.inl rfl) rfl rfl ?_ | refine fp2 (.inl rfl) rfl rfl rfl ?_ | refine fp3 (.inl rfl) rfl rfl rfl rfl ?_ | refine fp0 (.inr rfl) rfl ?_ | refine fp0 (.inl rfl) rfl ?_ | refine fp1 (.inr rfl) rfl rfl ?_)
            exact ⟨q, cc, L, i + 1, rfl, by rw [hfo], by omega, hlt, by omega, by rw [hfo], hS.tail⟩
    · obtain rfl : i = ms.length := by omega
      have hd : (evs ms).drop ms.length = [] := by rw [← evs_len, List.drop_length]
      rw [hd, foldF_nil] at hfo
      refine sgo ?_
      (first | refine fp1 (.inl rfl) rfl rfl ?_ | refine fp2 (.inl rfl) rfl rfl rfl ?_ | refine fp3 (.inl rfl) rfl rfl rfl rfl ?_ | refine fp0 (.inr rfl) rfl ?_ | refine fp0 (.inl rfl) rfl ?_ | refine fp1 (.inr rfl) rfl rfl ?_)
      exact ⟨q, cc, L, ms.length, rfl, by rw [hfo], hi0i, Nat.le_refl _, hLi, by rw [hfo, hd], hS⟩
end Go.Proofs.YthgbpgjpnaanlaaDoor

/-
  Package event: Fold, Merge.
-/
set_option linter.unusedSimpArgs false
set_option linter.unusedVariables false
set_option linter.unnecessarySimpa false
namespace Go.Proofs.YthgbpgjpnaanlaaDoor
open Go Go.Sv Go.RowKit
/-- what Fold says -/
def foldC (k : Lk) : Int := if k.err ≠ 0 then k.err else if k.stack ≠ [] then 181 else 0
def foldL (ms : List EvM) : List Nd := if foldC (lkR (evs ms)) = 0 then (foldF (evs ms) []).1 else []
set_option maxHeartbeats 2000000 in
theorem fold_ok (ms : List EvM) (p : Option Addr) (c : Nat) (hw : evw ms ≤ 2097152) (hn : ms.length ≤ 1048576) (hs : ∀ m ∈ ms, m.e.small) (w0 w : World) (cs : List Plot) (hS0 : Sep w0 w cs) (hA : Asc w) (hE : Evs w p ms) :
    CallsR Tryd.prog 28 #[.slice p ms.length c] w fun v w' => ∃ (q : Option Addr) (cc : Nat) (L : List NdM), v = .tuple #[.slice q L.length cc, int (foldC (lkR (evs ms)))] ∧ L.map NdM.nd = foldL ms ∧ L.length ≤ ms.length ∧ Frm w w' ∧
      Sep w0 w' (pRow 4 q L.length cc (L.flatMap NdM.cells) :: pMany (L.flatMap NdM.rows) :: cs) := by
  have hnil : ∀ (k : Int), k ≠ 0 → foldC (lkR (evs ms)) = k → ∀ w1, Frm w w1 → ∃ (q : Option Addr) (cc : Nat) (L : List NdM), (Value.tuple #[.slice none 0 0, int k]) = .tuple #[.slice q L.length cc, int (foldC (lkR (evs ms)))] ∧ L.map NdM.nd = foldL ms ∧ L.length ≤ ms.length ∧ Frm w w1 ∧
      Sep w0 w1 (pRow 4 q L.length cc (L.flatMap NdM.cells) :: pMany (L.flatMap NdM.rows) :: cs) := by
    intro k h0 h1 w1 hf1
    refine ⟨none, 0, [], by rw [h1]; rfl, by rw [foldL, h1, if_neg h0]; rfl, Nat.zero_le _, hf1, ?_⟩
    exact ((hS0.grow hf1).zero).push (c := pRow 4 none 0 0 []) (Frm.refl w1) (Row.nil w1 4) (rb_nil _)
  have hS := Sep.start w
  refine enter (l := [.slice p ms.length c]) Tryd.func28 rfl Tryd.ntmps28 (by kernel_rfl) rfl ?_
  refine sgo ?_
  refine sbox (v := .slice p ms.length c) hS fun b1 w1 hS => ?_
  replace hS : Sep w w1 [pOwn b1 [.slice p ms.length c]] := hS
  refine sgo ?_
  refine wlcall (open_ok2 ms p c hn hs w w1 _ hS (hA.frm hS.frm) (hE.frm hS.frm)) ?_
  rintro _ w2 ⟨q, cc, rfl, -, hS⟩
  have hC : foldC (lkR (evs ms)) = if (lkR (evs ms)).err ≠ 0 then (lkR (evs ms)).err else if (lkR (evs ms)).stack ≠ [] then 181 else 0 := rfl
  have hO : openS (lkR (evs ms)) = if (lkR (evs ms)).err = 0 then (lkR (evs ms)).stack else [] := rfl
  have hF : foldL ms = if foldC (lkR (evs ms)) = 0 then (foldF (evs ms) []).1 else [] := rfl
  generalize lkR (evs ms) = k at *
  refine sgo ?_
  by_cases he : k.err = 0
  · refine wcno ?_ (ht := by simpa using he)
    rw [if_neg (by simpa using he)] at hC
    rw [if_pos he] at hO
    rw [hO] at hS ⊢
    refine sgo ?_
    by_cases hst : k.stack = []
    · refine wcno ?_ (ht := by rw [hst]; rfl)
      rw [if_neg (by simpa using hst)] at hC
      rw [if_pos hC] at hF
      refine sgo ?_
      refine salloc hS fun b6 w3 hS => ?_
      refine sgo ?_
      refine sst_int hS 0 fun w4 hS => ?_
      refine sgo ?_
      refine salloc hS fun b7 w5 hS => ?_
      replace hS : Sep w w5 [pOwn b7 [.nilFunc], pOwn b6 [int ((0 : Nat) : Int)], pRow 1 q k.stack.length cc (strs k.stack), pOwn b1 [.slice p ms.length c]] := hS
      refine sgo ?_
      refine sst1 (v := .func (.func 54) #[] #[ptrAt (pb b6) 0, ptrAt (pb b1) 0, ptrAt (pb b7) 0]) hS 0 fun w6 hS => ?_
      replace hS : Sep w w6 [pOwn b7 [.func (.func 54) #[] #[ptrAt (pb b6) 0, ptrAt (pb b1) 0, ptrAt (pb b7) 0]], pOwn b6 [int ((0 : Nat) : Int)], pRow 1 q k.stack.length cc (strs k.stack), pOwn b1 [.slice p ms.length c]] := hS
      have hsf : Sg w6 (pb b7) [.func (.func 54) #[] #[ptrAt (pb b6) 0, ptrAt (pb b1) 0, ptrAt (pb b7) 0]] := (hS.own 0 rfl).sg
      refine sgo ?_
      refine wlcallv (f := 54) (first := []) (args := []) (cap := [ptrAt (pb b6) 0, ptrAt (pb b1) 0, ptrAt (pb b7) 0]) (kids_ok ms p c hw hn hs b6 b1 b7 w hE ms.length 0 (by omega) (Nat.zero_le _) w6 [pRow 1 q k.stack.length cc (strs k.stack)] (((hS.front 3 rfl).front 2 rfl).perm ?_)) ?_
      · exact List.Perm.cons _ (List.Perm.cons _ (List.Perm.refl _))
      rintro _ w7 ⟨q3, c3, L, j, rfl, hL, -, -, hl, -, hS⟩
      rw [List.drop_zero] at hL
      refine sgo ?_
      (first | refine fp1 (.inl rfl) rfl rfl ?_ | refine fp2 (.inl rfl) rfl rfl rfl ?_ | refine fp3 (.inl rfl) rfl rfl rfl rfl ?_ | refine fp0 (.inr rfl) rfl ?_ | refine fp0 (.inl rfl) rfl ?_ | refine fp1 (.inr rfl) rfl rfl ?_)
      exact ⟨q3, c3, L, by rw [hC]; rfl, by rw [hL, hF], hl, hS.frm, hS0.seq (ds := [_, _]) (hS.sub (List.Sublist.cons_cons _ (List.Sublist.cons_cons _ (List.nil_sublist _))))⟩
    · have hpos : 0 < k.stack.length := List.length_pos_iff.2 hst
      refine wcyes ?_ (ht := decide_eq_true (by omega))
      refine sgo ?_
      (first | refine fp1 (.inl rfl) rfl rfl ?_ | refine fp2 (.inl rfl) rfl rfl rfl ?_ | refine fp3 (.inl rfl) rfl rfl rfl rfl ?_ | refine fp0 (.inr rfl) rfl ?_ | refine fp0 (.inl rfl) rfl ?_ | refine fp1 (.inr rfl) rfl rfl ?_)
      exact hnil 181 (by decide) (by rw [hC, if_pos hst]) _ hS.frm
  · refine wcyes ?_ (ht := by simpa using he)
    refine sgo ?_
    (first | refine fp1 (.inl rfl) rfl rfl ?_ | refine fp2 (.inl rfl) rfl rfl rfl ?_ | refine fp3 (.inl rfl) rfl rfl rfl rfl ?_ | refine fp0 (.inr rfl) rfl ?_ | refine fp0 (.inl rfl) rfl ?_ | refine fp1 (.inr rfl) rfl rfl ?_)
    exact hnil _ he (by rw [hC, if_pos he]) _ hS.frm
end Go.Proofs.YthgbpgjpnaanlaaDoor

/-
  sievelaw18: trees.
-/
set_option linter.unusedSimpArgs false
set_option linter.unusedVariables false
set_option linter.unnecessarySimpa false
namespace Go.Proofs.YthgbpgjpnaanlaaDoor
open Go Go.Sv Go.RowKit
theorem fo_inj {f g : FoM} : f.fo = g.fo ↔ f.list.map NdM.nd = g.list.map NdM.nd := by
  rw [fo_list, fo_list]
  constructor
  · intro h
    have := congrArg Fo.list h
    rwa [Fo.list_of, Fo.list_of] at this
  · intro h; rw [h]
theorem nd_eq (m m2 : NdM) : m.nd = m2.nd ↔ m.name = m2.name ∧ m.text = m2.text ∧ m.attrs = m2.attrs ∧ m.kids.fo = m2.kids.fo := by
  unfold NdM.nd
  constructor
  · intro h; injection h with h1 h2 h3 h4; exact ⟨h1, h2, h3, h4⟩
  · rintro ⟨h1, h2, h3, h4⟩; rw [h1, h2, h3, h4]
def trP (f g : FoM) (p q : Option Addr) (c dd i : Nat) (m m2 : NdM) : PlanB Unit where
  pl k d := match k with
    | 8 => [pOwn d.b [str [], str [], .slice none 0 0, .slice none 0 0]]
    | 9 => [pOwn d.b [str [], str [], .slice none 0 0, .slice none 0 0]]
    | 10 => [pOwn d.b m.cells]
    | 11 => [pOwn d.b m2.cells]
    | _ => []
  con k := match k with
    | 8 => some 10
    | 9 => some 11
    | _ => none
  base k := match k with
    | _ => []
  fact k a := match k with
    | 0 => (a 0).v = .slice p f.len c
    | 1 => (a 1).v = int i
    | 2 => (a 2).v = ptrAt p (i * 4)
    | 3 => (a 3).v = .agg ⟨((f.list.flatMap NdM.cells).drop (i * 4)).take 4⟩
    | 4 => (a 4).v = .slice q g.len dd
    | 5 => (a 5).v = int i
    | 6 => (a 6).v = ptrAt q (i * 4)
    | 7 => (a 7).v = .agg ⟨((g.list.flatMap NdM.cells).drop (i * 4)).take 4⟩
    | 8 => (a 8).v = ptrAt (pb (a 8).b) 0
    | 9 => (a 9).v = ptrAt (pb (a 9).b) 0
    | 10 => (a 10).b = (a 8).b
    | 11 => (a 11).b = (a 9).b
    | _ => True
set_option maxHeartbeats 4000000 in
theorem trees_ok : ∀ (k : Nat) (f g : FoM) (p q : Option Addr) (c dd : Nat), f.size ≤ k → f.wt ≤ 1048576 → g.wt ≤ 1048576 → ∀ (w : World), Tre w p f → Tre w q g → PureC Tryd.prog 32 #[.slice p f.len c, .slice q g.len dd] w (.bool (decide (f.fo = g.fo))) := by
  intro k
  induction k with
  | zero =>
    intro f g p q c dd hk hw hw2 w hT hT2
    cases f with
    | cons n t es ap ac ks kp kc r => simp only [FoM.size] at hk; omega
    | nil =>
      show PureC Tryd.prog _ #[.slice p 0 c, .slice q g.len dd] w _
      refine enter (l := [.slice p 0 c, .slice q g.len dd]) Tryd.func32 rfl Tryd.ntmps32 (by kernel_rfl) rfl ?_
      refine sgo ?_
      (show WC _ _ _ _ _ _ _; first | refine WC_dec rfl (fun hc => ?_) (fun hc => ?_) | refine WC_cond rfl (fun hc => ?_) (fun hc => ?_))
      · have hne : FoM.nil.fo ≠ g.fo := by
          intro h
          have h2 := congrArg List.length (fo_inj.1 h)
          rw [List.length_map, List.length_map] at h2
          exact hc (by rw [show g.len = g.list.length from rfl, ← h2]; rfl)
        refine sgo ?_
        (first | refine fp1 (.inl rfl) rfl rfl ?_ | refine fp2 (.inl rfl) rfl rfl rfl ?_ | refine fp3 (.inl rfl) rfl rfl rfl rfl ?_ | refine fp0 (.inr rfl) rfl ?_ | refine fp0 (.inl rfl) rfl ?_ | refine fp1 (.inr rfl) rfl rfl ?_); refine ⟨?_, by (first | exact Frm.refl _ | assumption | exact Go.Sv.Sep.frm (by assumption) | (refine Frm.trans ?_ (by assumption); first | exact Frm.refl _ | assumption))⟩; (try simp only [realB, rv_true, Nat.reduceBEq, cond_true, cond_false, entG, real_lif, updGL])
        rw [decide_eq_false hne]
      · have hg : g = .nil := by
          cases g with
          | nil => rfl
          | cons n t es ap ac ks kp kc r =>
            simp only [FoM.len, FoM.list, List.length_cons, decide_eq_false_iff_not] at hc
            omega
        subst hg
        refine sgo ?_
        refine wcloop (X := Unit) (fun x => [(15, int 0), (16, int 0)]) (fun _ wr => wr = w) (fun _ => 0) () ⟨rfl, rfl, trivial⟩ rfl ?_
        rintro _ wr ρ rfl
        refine sgo ?_
        (first | refine fp1 (.inl rfl) rfl rfl ?_ | refine fp2 (.inl rfl) rfl rfl rfl ?_ | refine fp3 (.inl rfl) rfl rfl rfl rfl ?_ | refine fp0 (.inr rfl) rfl ?_ | refine fp0 (.inl rfl) rfl ?_ | refine fp1 (.inr rfl) rfl rfl ?_); refine ⟨?_, by (first | exact Frm.refl _ | assumption | exact Go.Sv.Sep.frm (by assumption) | (refine Frm.trans ?_ (by assumption); first | exact Frm.refl _ | assumption))⟩; (try simp only [realB, rv_true, Nat.reduceBEq, cond_true, cond_false, entG, real_lif, updGL])
        rfl
  | succ k ih =>
    intro f g p q c dd hk hw hw2 w hT hT2
    have hlw := FoM.len_wt f
    have hlw2 := FoM.len_wt g
    have hS := Sep.start w
    refine enter (l := [.slice p f.len c, .slice q g.len dd]) Tryd.func32 rfl Tryd.ntmps32 (by kernel_rfl) rfl ?_
    refine sgo ?_
    (show WC _ _ _ _ _ _ _; first | refine WC_dec rfl (fun hc => ?_) (fun hc => ?_) | refine WC_cond rfl (fun hc => ?_) (fun hc => ?_))
    · have hne : f.fo ≠ g.fo := by
        intro h
        have h2 := congrArg List.length (fo_inj.1 h)
        rw [List.length_map, List.length_map] at h2
        exact hc (by rw [show f.len = f.list.length from rfl, show g.len = g.list.length from rfl, h2])
      refine sgo ?_
      (first | refine fp1 (.inl rfl) rfl rfl ?_ | refine fp2 (.inl rfl) rfl rfl rfl ?_ | refine fp3 (.inl rfl) rfl rfl rfl rfl ?_ | refine fp0 (.inr rfl) rfl ?_ | refine fp0 (.inl rfl) rfl ?_ | refine fp1 (.inr rfl) rfl rfl ?_); refine ⟨?_, by (first | exact Frm.refl _ | assumption | exact Go.Sv.Sep.frm (by assumption) | (refine Frm.trans ?_ (by assumption); first | exact Frm.refl _ | assumption))⟩; (try simp only [realB, rv_true, Nat.reduceBEq, cond_true, cond_false, entG, real_lif, updGL])
      rw [decide_eq_false hne]
    have hlen : f.len = g.len := by
      have : ¬ ((f.len : Int) ≠ g.len) := by simpa using hc
      omega
    clear hc
    refine sgo ?_
    refine wcloop (X := Nat) (fun i => [(0, .slice p f.len c), (1, .slice q g.len dd), (15, int f.len), (16, int i)])
      (fun i wr => i ≤ f.len ∧ (f.list.map NdM.nd).take i = (g.list.map NdM.nd).take i ∧ Sep w wr []) (fun i => f.len - i) 0 ⟨rfl, rfl, rfl, rfl, trivial⟩ ⟨Nat.zero_le _, rfl, hS⟩ ?_
    clear hS
    rintro i wr ρ ⟨hil, hpre, hS⟩
    refine sgo ?_
    (show WC _ _ _ _ _ _ _; first | refine WC_dec rfl (fun hc => ?_) (fun hc => ?_) | refine WC_cond rfl (fun hc => ?_) (fun hc => ?_))
    · have hlt : i < f.len := by omega
      have hlt2 : i < g.len := by omega
      obtain ⟨m, hx, hm, hseg, hfl, hps, hat, hkT⟩ := tre_at hT hlt
      obtain ⟨m2, hx2, hm2, hseg2, hfl2, hqs, hat2, hkT2⟩ := tre_at hT2 hlt2
      have hsz := FoM.size_mem hm
      have hsm := nd_small hw hm
      have hsm2 := nd_small hw2 hm2
      have hih := fun w' (cs' : List Plot) (h : Sep w w' cs') => ih m.kids m2.kids m.kp m2.kp m.kc m2.kc (by omega) hsm.kids hsm2.kids w' (hkT.frm h.frm) (hkT2.frm h.frm)
      have hmx : (f.list.map NdM.nd)[i]? = some m.nd := by rw [List.getElem?_map, hx]; rfl
      have hmx2 : (g.list.map NdM.nd)[i]? = some m2.nd := by rw [List.getElem?_map, hx2]; rfl
      have hnf : m.nd ≠ m2.nd → f.fo ≠ g.fo := fun h h2 => by
        rw [fo_inj.1 h2, hmx2] at hmx
        exact h (Option.some.inj hmx).symm
      have hnx : m.nd = m2.nd → (f.list.map NdM.nd).take (i + 1) = (g.list.map NdM.nd).take (i + 1) := fun h => by
        rw [List.take_add_one, List.take_add_one, hmx, hmx2, hpre, h]
      clear hc
      refine sgo ?_
      replace hS : Sep w wr ([] ++ []) := hS
      refine wcplanb (b := []) (trP f g p q c dd i m m2) ⟨.nilIface, none, 0, 0, ()⟩ hS rfl (fun j oj a a' hj he hd h => ?_) ⟨?_, ?_, ?_, ?_, ?_, ?_, ?_, ?_, ?_, ?_, ?_, ?_, trivial⟩ ?_
      · have hjl : j < 12 := (List.getElem?_eq_some_iff.1 hj).1
        match j, hjl with
        | 0, _ | 1, _ | 2, _ | 3, _ | 4, _ | 5, _ | 6, _ | 7, _ | 8, _ | 9, _ => first | (simp only [trP] at h ⊢; rw [← he]; exact h) | exact h
        | 10, _ => simp only [trP] at h ⊢; rw [← he, ← hd 8 (by cases hj; rfl)]; exact h
        | 11, _ => simp only [trP] at h ⊢; rw [← he, ← hd 9 (by cases hj; rfl)]; exact h
      · intro a σ' w' rest hσ hdep hS'   -- 0: move; pieces:  ..
        have e0 : σ' 0 = .slice p f.len c := (hσ 0 (notDstB rfl)).trans rfl
        exact rule_e [(0, _)] ⟨e0, trivial⟩ ⟨⟨.slice p f.len c, none, 0, 0, ()⟩, rfl, rfl, hS'⟩
      · intro a σ' w' rest hσ hdep hS'   -- 1: move; pieces:  ..
        have e5 : σ' 5 = int i := (hσ 5 (notDstB rfl)).trans rfl
        exact rule_e [(5, _)] ⟨e5, trivial⟩ ⟨⟨int i, none, 0, 0, ()⟩, rfl, rfl, hS'⟩
      · intro a σ' w' rest hσ hdep hS'   -- 2: indexAddr; pieces:  ..
        have f0 := (hdep 0 _ rfl rfl).2
        have e19 := ((hdep 0 _ rfl rfl).1 19 rfl).trans f0
        have f1 := (hdep 1 _ rfl rfl).2
        have e20 := ((hdep 1 _ rfl rfl).1 20 rfl).trans f1
        exact rule_y (y_idx e19 e20 hlt hps) ⟨⟨ptrAt p (i * 4), none, 0, 0, ()⟩, rfl, rfl, hS'⟩
      · intro a σ' w' rest hσ hdep hS'   -- 3: load; pieces:  ..
        have f2 := (hdep 2 _ rfl rfl).2
        have e21 := ((hdep 2 _ rfl rfl).1 21 rfl).trans f2
        exact rule_y (y_loada e21 (hT.frm hS'.frm).im.sg (by omega) hps) ⟨⟨.agg ⟨((f.list.flatMap NdM.cells).drop (i * 4)).take 4⟩, none, 0, 0, ()⟩, rfl, rfl, hS'⟩
      · intro a σ' w' rest hσ hdep hS'   -- 4: move; pieces:  ..
        have e1 : σ' 1 = .slice q g.len dd := (hσ 1 (notDstB rfl)).trans rfl
        exact rule_e [(1, _)] ⟨e1, trivial⟩ ⟨⟨.slice q g.len dd, none, 0, 0, ()⟩, rfl, rfl, hS'⟩
      · intro a σ' w' rest hσ hdep hS'   -- 5: move; pieces:  ..
        have e5 : σ' 5 = int i := (hσ 5 (notDstB rfl)).trans rfl
        exact rule_e [(5, _)] ⟨e5, trivial⟩ ⟨⟨int i, none, 0, 0, ()⟩, rfl, rfl, hS'⟩
      · intro a σ' w' rest hσ hdep hS'   -- 6: indexAddr; pieces:  ..
        have f4 := (hdep 4 _ rfl rfl).2
        have e23 := ((hdep 4 _ rfl rfl).1 23 rfl).trans f4
        have f5 := (hdep 5 _ rfl rfl).2
        have e24 := ((hdep 5 _ rfl rfl).1 24 rfl).trans f5
        exact rule_y (y_idx e23 e24 hlt2 hqs) ⟨⟨ptrAt q (i * 4), none, 0, 0, ()⟩, rfl, rfl, hS'⟩
      · intro a σ' w' rest hσ hdep hS'   -- 7: load; pieces:  ..
        have f6 := (hdep 6 _ rfl rfl).2
        have e25 := ((hdep 6 _ rfl rfl).1 25 rfl).trans f6
        exact rule_y (y_loada e25 (hT2.frm hS'.frm).im.sg (by omega) hqs) ⟨⟨.agg ⟨((g.list.flatMap NdM.cells).drop (i * 4)).take 4⟩, none, 0, 0, ()⟩, rfl, rfl, hS'⟩
      · intro a σ' w' rest hσ hdep hS'   -- 8: alloc; pieces:  ..
        obtain ⟨b, w2, hy, hS2⟩ := y_salloc (P := Tryd.prog) (e := 71) (d := some 6) hS'
        exact rule_y hy ⟨⟨ptrAt (pb b) 0, none, 0, b, ()⟩, rfl, rfl, hS2⟩
      · intro a σ' w' rest hσ hdep hS'   -- 9: alloc; pieces:  ..
        obtain ⟨b, w2, hy, hS2⟩ := y_salloc (P := Tryd.prog) (e := 71) (d := some 7) hS'
        exact rule_y hy ⟨⟨ptrAt (pb b) 0, none, 0, b, ()⟩, rfl, rfl, hS2⟩
      · intro a σ' w' rest hσ hdep hS'   -- 10: store; pieces: takes 8 ..
        have f8 := (hdep 8 _ rfl rfl).2
        have e6 := ((hdep 8 _ rfl rfl).1 6 rfl).trans f8
        have f3 := (hdep 3 _ rfl rfl).2
        have e22 := ((hdep 3 _ rfl rfl).1 22 rfl).trans f3
        rw [hseg] at e22
        obtain ⟨w2, hy, hS2⟩ := y_sst (P := Tryd.prog) (t := 71) (x := .tmp 6) (y := .tmp 22) hS' 0 rfl e6 e22 rfl (Nat.le_of_ble_eq_true rfl) (by simp [Go.Value.cells, NdM.cells, Go.Value.oneCell'])
        exact rule_y hy ⟨⟨undef, none, 0, (a 8).b, ()⟩, rfl, rfl, hS2⟩
      · intro a σ' w' rest hσ hdep hS'   -- 11: store; pieces: takes 9 ..
        have f9 := (hdep 9 _ rfl rfl).2
        have e7 := ((hdep 9 _ rfl rfl).1 7 rfl).trans f9
        have f7 := (hdep 7 _ rfl rfl).2
        have e26 := ((hdep 7 _ rfl rfl).1 26 rfl).trans f7
        rw [hseg2] at e26
        obtain ⟨w2, hy, hS2⟩ := y_sst (P := Tryd.prog) (t := 71) (x := .tmp 7) (y := .tmp 26) hS' 0 rfl e7 e26 rfl (Nat.le_of_ble_eq_true rfl) (by simp [Go.Value.cells, NdM.cells, Go.Value.oneCell'])
        exact rule_y hy ⟨⟨undef, none, 0, (a 9).b, ()⟩, rfl, rfl, hS2⟩
      · intro a σ' w' hσ hA' hS'
        have h8 := hA' 8 _ rfl
        have h9 := hA' 9 _ rfl
        have f10 := (hA' 10 _ rfl).2
        have f11 := (hA' 11 _ rfl).2
        rw [frameOf (σ := σ') [(0, .slice p f.len c), (1, .slice q g.len dd), (5, int i), (6, ptrAt (pb (a 8).b) 0), (7, ptrAt (pb (a 9).b) 0), (15, int f.len), (16, int i)]
          ⟨(hσ 0 (notDst rfl)).trans rfl, (hσ 1 (notDst rfl)).trans rfl, (hσ 5 (notDst rfl)).trans rfl, (h8.1 6 rfl).trans h8.2, (h9.1 7 rfl).trans h9.2, (hσ 15 (notDst rfl)).trans rfl, (hσ 16 (notDst rfl)).trans rfl, trivial⟩]
        replace hS : Sep w w' [pOwn (a 10).b m.cells, pOwn (a 11).b m2.cells] := hS'
        rw [f10, f11] at hS
        generalize (a 8).b = b6 at *
        generalize (a 9).b = b7 at *
        clear hA' h8 h9 f10 f11 hσ hS'
        have hmn := nd_eq m m2
        obtain ⟨n, t, es, ap, ac, ks, kp, kc⟩ := m
        obtain ⟨n2, t2, es2, ap2, ac2, ks2, kp2, kc2⟩ := m2
        dsimp only at hih hmn hat hat2
        replace hS : Sep w w' [pOwn b6 [str n, str t, .slice ap es.length ac, .slice kp ks.len kc], pOwn b7 [str n2, str t2, .slice ap2 es2.length ac2, .slice kp2 ks2.len kc2]] := hS
        have hes := hsm.attrs
        have hes2 := hsm2.attrs
        dsimp only at hes hes2
        refine sgo ?_
        refine wlcallgp (vals := [.slice kp ks.len kc, .slice kp2 ks2.len kc2]) (fun _ => hih w' _ hS) fun w8 hf8 => ?_
        replace hS := hS.grow hf8
        refine sgo ?_
        (show WC _ _ _ _ _ _ _; first | refine WC_dec rfl (fun hc => ?_) (fun hc => ?_) | refine WC_cond rfl (fun hc => ?_) (fun hc => ?_))
        · have hne : ¬ (NdM.nd ⟨n, t, es, ap, ac, ks, kp, kc⟩ = NdM.nd ⟨n2, t2, es2, ap2, ac2, ks2, kp2, kc2⟩) := fun h => by
            obtain ⟨h1, h2, h3, h4⟩ := hmn.1 h
            subst h1 h2 h3
            rw [h4] at hc
            simp [pkb_or] at hc
          refine sgo ?_
          (first | refine fp1 (.inl rfl) rfl rfl ?_ | refine fp2 (.inl rfl) rfl rfl rfl ?_ | refine fp3 (.inl rfl) rfl rfl rfl rfl ?_ | refine fp0 (.inr rfl) rfl ?_ | refine fp0 (.inl rfl) rfl ?_ | refine fp1 (.inr rfl) rfl rfl ?_); refine ⟨?_, by (first | exact Frm.refl _ | assumption | exact Go.Sv.Sep.frm (by assumption) | (refine Frm.trans ?_ (by assumption); first | exact Frm.refl _ | assumption))⟩; (try simp only [realB, rv_true, Nat.reduceBEq, cond_true, cond_false, entG, real_lif, updGL])
          rw [decide_eq_false (hnf hne)]
        · simp only [pkb_or, Bool.or_eq_false_iff, decide_eq_false_iff_not, Decidable.not_not, Bool.not_eq_false', decide_eq_true_eq] at hc
          obtain ⟨⟨⟨h1, h2⟩, hle⟩, hkk⟩ := hc
          have hle : es.length = es2.length := by omega
          have hl1 := fm_len At.len es
          have hl2 := fm_len At.len es2
          refine sgo ?_
          refine wcloop (X := Nat) (fun j => [(0, .slice p f.len c), (1, .slice q g.len dd), (6, ptrAt (pb b6) 0), (7, ptrAt (pb b7) 0), (15, int f.len), (16, int i), (58, int es.length), (59, int j)])
            (fun j wr => j ≤ es.length ∧ es.take j = es2.take j ∧ Sep w wr [pOwn b6 [str n, str t, .slice ap es.length ac, .slice kp ks.len kc], pOwn b7 [str n2, str t2, .slice ap2 es2.length ac2, .slice kp2 ks2.len kc2]]) (fun j => es.length - j) 0 ⟨rfl, rfl, rfl, rfl, rfl, rfl, rfl, rfl, trivial⟩ ⟨Nat.zero_le _, rfl, hS⟩ ?_
          clear hS
          rintro j wr2 ρ3 ⟨hjl, hpj, hS⟩
          refine sgo ?_
          (show WC _ _ _ _ _ _ _; first | refine WC_dec rfl (fun hc => ?_) (fun hc => ?_) | refine WC_cond rfl (fun hc => ?_) (fun hc => ?_))
          · have hjt : j < es.length := by omega
            have hxa : es[j]? = some es[j] := List.getElem?_eq_getElem hjt
            have hya : es2[j]? = some es2[j] := List.getElem?_eq_getElem (by omega)
            have hsx := att_at hxa
            have hsy := att_at hya
            have hpa : ∃ a, ap = some a := hat.some (by omega)
            have hpb : ∃ a, ap2 = some a := hat2.some (by omega)
            have hta : es.take (j + 1) = es.take j ++ [es[j]] := by rw [List.take_add_one, hxa]; rfl
            have htb : es2.take (j + 1) = es2.take j ++ [es2[j]] := by rw [List.take_add_one, hya]; rfl
            generalize es[j] = x at *
            generalize es2[j] = y at *
            clear hc
            refine sgo ?_
            refine wcdraw ?_
            refine qgo ?_
            rw [hsx, hsy]
            refine ql (v := .bool (!(decide (x.n = y.n) && (decide (x.v = y.v) && true)))) ?_ (YQ.ofY fun w _ => y_aneq rfl rfl rfl)
            refine QL_nil ?_
            intro w3 hf3
            replace hS := hS.grow hf3
            obtain ⟨xn, xv⟩ := x
            obtain ⟨yn, yv⟩ := y
            refine sgo ?_
            (show WC _ _ _ _ _ _ _; first | refine WC_dec rfl (fun hc => ?_) (fun hc => ?_) | refine WC_cond rfl (fun hc => ?_) (fun hc => ?_))
            · have hne : ¬ (NdM.nd ⟨n, t, es, ap, ac, ks, kp, kc⟩ = NdM.nd ⟨n2, t2, es2, ap2, ac2, ks2, kp2, kc2⟩) := fun h => by
                obtain ⟨_, _, h3, _⟩ := hmn.1 h
                subst h3
                rw [hxa] at hya
                injection hya with hya
                injection hya with e1 e2
                subst e1 e2
                simp at hc
              refine sgo ?_
              (first | refine fp1 (.inl rfl) rfl rfl ?_ | refine fp2 (.inl rfl) rfl rfl rfl ?_ | refine fp3 (.inl rfl) rfl rfl rfl rfl ?_ | refine fp0 (.inr rfl) rfl ?_ | refine fp0 (.inl rfl) rfl ?_ | refine fp1 (.inr rfl) rfl rfl ?_); refine ⟨?_, by (first | exact Frm.refl _ | assumption | exact Go.Sv.Sep.frm (by assumption) | (refine Frm.trans ?_ (by assumption); first | exact Frm.refl _ | assumption))⟩; (try simp only [realB, rv_true, Nat.reduceBEq, cond_true, cond_false, entG, real_lif, updGL])
              rw [decide_eq_false (hnf hne)]
            · refine sgo ?_
              refine ⟨j + 1, ⟨rfl, rfl, rfl, rfl, rfl, rfl, rfl, rfl, trivial⟩, ⟨hjt, ?_, hS⟩, (by (try dsimp only); omega)⟩
              rw [hta, htb, hpj]
              simp at hc
              rw [hc.1, hc.2]
          · obtain rfl : j = es.length := by omega
            rw [List.take_length, hle, List.take_length] at hpj
            have hnn := hnx (hmn.2 ⟨h1, h2, hpj, hkk⟩)
            refine sgo ?_
            exact ⟨i + 1, ⟨rfl, rfl, rfl, rfl, trivial⟩, ⟨hlt, hnn, hS.empty⟩, (by (try dsimp only); omega)⟩
    · obtain rfl : i = f.len := by omega
      have h1 : (f.list.map NdM.nd).take f.len = f.list.map NdM.nd := List.take_of_length_le (by rw [List.length_map]; exact Nat.le_refl _)
      have h2 : (g.list.map NdM.nd).take f.len = g.list.map NdM.nd := List.take_of_length_le (by rw [List.length_map, hlen]; exact Nat.le_refl _)
      rw [h1, h2] at hpre
      refine sgo ?_
      (first | refine fp1 (.inl rfl) rfl rfl ?_ | refine fp2 (.inl rfl) rfl rfl rfl ?_ | refine fp3 (.inl rfl) rfl rfl rfl rfl ?_ | refine fp0 (.inr rfl) rfl ?_ | refine fp0 (.inl rfl) rfl ?_ | refine fp1 (.inr rfl) rfl rfl ?_); refine ⟨?_, by (first | exact Frm.refl _ | assumption | exact Go.Sv.Sep.frm (by assumption) | (refine Frm.trans ?_ (by assumption); first | exact Frm.refl _ | assumption))⟩; (try simp only [realB, rv_true, Nat.reduceBEq, cond_true, cond_false, entG, real_lif, updGL])
      rw [decide_eq_true (fo_inj.2 hpre)]
end Go.Proofs.YthgbpgjpnaanlaaDoor

/-
  sievelaw18: EventDepths.
-/
set_option linter.unusedSimpArgs false
set_option linter.unusedVariables false
set_option linter.unnecessarySimpa false
namespace Go.Proofs.YthgbpgjpnaanlaaDoor
open Go Go.Sv Go.RowKit
/-! ## how much they weigh -/
def Fo.wt : Fo → Nat
  | .nil => 0
  | .cons n t es ks r => 4 + n.length + t.length + (es.map At.wt).sum + ks.wt + r.wt
theorem wt_fo (f : FoM) : f.wt = f.fo.wt := by
  induction f with
  | nil => rfl
  | cons n t es ap ac ks kp kc r ih1 ih2 => simp only [FoM.wt, FoM.fo, Fo.wt, ih1, ih2]
def wNd (m : Nd) : Nat := 4 + m.name.length + m.text.length + (m.attrs.map At.wt).sum + m.kids.wt
def wN (l : List Nd) : Nat := (l.map wNd).sum
theorem wN_of (l : List Nd) : (Fo.of l).wt = wN l := by
  induction l with
  | nil => rfl
  | cons m l ih => simp only [Fo.of, Fo.wt, ih, wN, List.map_cons, List.sum_cons, wNd]
theorem wN_snoc (l : List Nd) (m : Nd) : wN (l ++ [m]) = wN l + wNd m := by simp [wN]
theorem wN_pushT (out : List Nd) (t : List UInt8) : wN (pushT out t) ≤ wN out + 4 + t.length := by
  rcases List.eq_nil_or_concat out with rfl | ⟨l, m, rfl⟩
  · simp [pushT, wN, wNd, Fo.wt]
  · rw [List.concat_eq_append, pushT_snoc]
    split
    · rw [wN_snoc, wN_snoc]; simp only [wNd, List.length_append]; omega
    · rw [wN_snoc]; simp only [wNd, List.length_nil, List.map_nil, List.sum_nil, Fo.wt]; omega
def wE (l : List Ev) : Nat := (l.map Ev.wt).sum
theorem wE_cons (e : Ev) (l : List Ev) : wE (e :: l) = e.wt + wE l := by simp [wE]
theorem foldF_wt : ∀ (k : Nat) (l : List Ev) (out : List Nd), l.length ≤ k → wN (foldF l out).1 + wE (foldF l out).2 ≤ wN out + wE l
  | k, [], out, _ => Nat.le_refl _
  | 0, e :: l, out, h => by simp at h
  | k + 1, e :: l, out, h => by
    simp only [List.length_cons] at h
    rw [foldF_cons, wE_cons]
    have he : e.wt = 4 + e.name.length + e.text.length + (e.attrs.map At.wt).sum := rfl
    split
    · have h1 := foldF_wt k l (pushT out e.text) (by omega)
      have h2 := wN_pushT out e.text
      omega
    · split
      · have h1 := foldF_wt k l (out ++ [⟨e.name, [], e.attrs, .nil⟩]) (by omega)
        rw [wN_snoc] at h1
        simp only [wNd, List.length_nil, Fo.wt] at h1
        omega
      · split
        · have h1 := foldF_wt k l [] (by omega)
          have hl := foldF_len l []
          have h2 := foldF_wt k (foldF l []).2 (out ++ [⟨e.name, [], e.attrs, .of (foldF l []).1⟩]) (by omega)
          rw [wN_snoc] at h2
          simp only [wNd, List.length_nil, wN_of] at h2
          have h0 : wN [] = 0 := rfl
          omega
        · dsimp only; omega
theorem evw_wE (ms : List EvM) : evw ms = wE (evs ms) := by unfold evw wE evs; rw [List.map_map]; rfl
theorem foldL_wt {ms : List EvM} {L : List NdM} (hL : L.map NdM.nd = foldL ms) : (FoM.of L).wt ≤ evw ms := by
  rw [wt_fo, fo_of, hL, wN_of, evw_wE]
  unfold foldL
  split
  · have := foldF_wt _ (evs ms) [] (Nat.le_refl _)
    have h0 : wN [] = 0 := rfl
    omega
  · exact Nat.zero_le _
/-- a list of trees in memory of one's own -/
theorem Sep.treL {w0 w : World} {cs : List Plot} {q : Option Addr} {n c : Nat} {L : List NdM} (h : Sep w0 w cs) (i j : Nat) (hi : cs[i]? = some (pRow 4 q n c (L.flatMap NdM.cells))) (hj : cs[j]? = some (pMany (L.flatMap NdM.rows))) : Tre w q (FoM.of L) := by
  refine Sep.tre (n := n) (c := c) h i j ?_ ?_
  · rw [FoM.list_of]; exact hi
  · rw [rows_of]; exact hj
end Go.Proofs.YthgbpgjpnaanlaaDoor

/-
  Events trimmed and wrapped: the plain part.
-/
set_option linter.unusedSimpArgs false
set_option linter.unusedVariables false
set_option linter.unnecessarySimpa false
namespace Go.Proofs.YthgbpgjpnaanlaaDoor
open Go Go.Sv Go.RowKit

theorem lk_len (l : List Ev) : (lkR l).err = 0 → (lkR l).stack.length ≤ (lkR l).most := by
  refine snoc_ind (p := fun l => (lkR l).err = 0 → (lkR l).stack.length ≤ (lkR l).most) (fun _ => Nat.le_refl _) (fun l e ih h => ?_) l
  obtain ⟨h0, he⟩ := lk_snoc_ok h
  have h2 := h
  rw [lk_snoc] at h2 ⊢
  obtain ⟨-, hst⟩ := lk_right h0 h2
  rw [hst]
  have := ih h0
  dsimp only
  split
  · rename_i hk
    rw [if_pos (.inl hk), List.length_append, List.length_singleton]; omega
  · split
    · rw [List.length_dropLast]; split <;> omega
    · split <;> omega
/-- what is left of events, without what is too deep -/
theorem trim_law (D : Int) (hD : 0 ≤ D) (ms : List EvM) (h : (lkR (evs ms)).err = 0) : ∀ i, i ≤ ms.length →
    (trI D ms i).1 = (lkI ms i).stack.length ∧ (lkR (evs (trI D ms i).2)).err = 0 ∧ (lkR (evs (trI D ms i).2)).stack = (lkI ms i).stack.take D.toNat ∧ (lkR (evs (trI D ms i).2)).most ≤ D.toNat ∧ ((lkI ms i).most ≤ D.toNat → evs (trI D ms i).2 = (evs ms).take i) := by
  intro i
  induction i with
  | zero => intro _; exact ⟨rfl, rfl, by simp [lkI, lkR, lk0, trI, trM, evs], Nat.zero_le _, fun _ => rfl⟩
  | succ i ih =>
    intro hi
    obtain ⟨i1, i2, i3, i4, i5⟩ := ih (by omega)
    have hx : ms[i]? = some ms[i] := List.getElem?_eq_getElem (by omega)
    have h0 := lkI_right h i
    have h1 := lkI_right h (i + 1)
    have hsuc := lkI_succ hx
    have hlen := lk_len ((evs ms).take i) h0
    rw [show lkR ((evs ms).take i) = lkI ms i from rfl] at hlen
    have hsn : (evs ms).take (i + 1) = (evs ms).take i ++ [ms[i].e] := by rw [List.take_add_one, evs_at hx]; rfl
    rw [trI_succ hx]
    rw [hsuc] at h1
    obtain ⟨he, hst⟩ := lk_right h0 h1
    have hne : ms[i].e.kind = 2 → (lkI ms i).stack ≠ [] ∧ (lkI ms i).stack.getLast? = some ms[i].e.name := by
      intro h2
      have h3 := h1
      simp only [lkStep, h0, if_true, he, h2] at h3
      refine ⟨fun h4 => ?_, ?_⟩
      · rw [h4] at h3; simp at h3
      · by_cases hg : (lkI ms i).stack.getLast? = some ms[i].e.name
        · exact hg
        · rw [if_neg hg] at h3; simp at h3
    rw [hst] at hsuc
    have hmono : (lkI ms i).most ≤ (lkI ms (i + 1)).most := by rw [hsuc]; dsimp only; split <;> omega
    generalize hme : ms[i].e = e at *
    generalize hK : lkI ms i = K at *
    generalize (trI D ms i).1 = o at *
    generalize hT : evs (trI D ms i).2 = T at *
    have hsnT : ∀ m : EvM, evs ((trI D ms i).2 ++ [m]) = T ++ [m.e] := fun m => by rw [evs_snoc, hT]
    have hob := Int.toNat_of_nonneg hD
    generalize D.toNat = N at *
    subst i1
    generalize (trI D ms i).2 = TL at *
    have hstp : ∀ m : EvM, m.e = e → lkR (evs (TL ++ [m])) = lkStep (lkR T) e := fun m hm => by rw [hsnT, hm, lk_snoc]
    have hz := Int.toNat_of_nonneg hD
    rcases evR_kind he with hk | hk | hk | hk
    · have e1 : opnE e (K.stack.length : Int) = K.stack.length := by unfold opnE; rw [if_neg (by omega), if_neg (by omega)]
      have e2 : keepE D (K.stack.length : Int) e = decide ((K.stack.length : Int) ≤ D) := by unfold keepE arndE; rw [if_pos hk, if_neg (by omega)]
      have e3 : lkI ms (i + 1) = ⟨K.stack, K.most, 0, 0, K.good + 1⟩ := by rw [hsuc]; simp [hk]
      rw [e1, e2, e3]
      dsimp only
      by_cases hkp : (K.stack.length : Int) ≤ D
      · rw [decide_eq_true hkp, if_pos rfl, hstp _ hme, lk_text i2 he hk]
        refine ⟨rfl, rfl, i3, i4, fun hm => ?_⟩
        rw [hsnT, hme, hsn, i5 hm]
      · rw [decide_eq_false hkp, if_neg (by decide), hT]
        exact ⟨rfl, i2, i3, i4, fun hm => by omega⟩
    · have e1 : opnE e (K.stack.length : Int) = K.stack.length + 1 := by unfold opnE; rw [if_pos hk]
      have e2 : keepE D (K.stack.length : Int) e = decide ((K.stack.length : Int) < D) := by unfold keepE arndE; rw [if_neg (by omega), if_neg (by omega)]
      have e3 : lkI ms (i + 1) = ⟨K.stack ++ [e.name], max K.most (K.stack.length + 1), 0, 0, K.good + 1⟩ := by rw [hsuc]; simp [hk]
      rw [e1, e2, e3]
      dsimp only
      by_cases hkp : (K.stack.length : Int) < D
      · have h5 : lkStep (lkR T) e = ⟨(lkR T).stack ++ [e.name], max (lkR T).most ((lkR T).stack.length + 1), 0, 0, (lkR T).good + 1⟩ := by rw [lkStep, if_pos i2, if_pos he, if_pos hk]
        have hN : K.stack.take N = K.stack := List.take_of_length_le (by omega)
        rw [decide_eq_true hkp, if_pos rfl, hstp _ hme, h5, i3, hN]
        dsimp only
        refine ⟨by simp, rfl, (List.take_of_length_le (by simp; omega)).symm, by omega, fun hm => ?_⟩
        rw [hsnT, hme, hsn, i5 (by omega)]
      · rw [decide_eq_false hkp, if_neg (by decide), hT]
        exact ⟨by simp, i2, by rw [i3, List.take_append_of_le_length (by omega)], i4, fun hm => by omega⟩
    · obtain ⟨hn1, hn2⟩ := hne hk
      have hpos : 0 < K.stack.length := List.length_pos_iff.2 hn1
      have e1 : opnE e (K.stack.length : Int) = K.stack.length - 1 := by unfold opnE; rw [if_neg (by omega), if_pos hk]
      have e2 : keepE D (K.stack.length : Int) e = decide ((K.stack.length : Int) - 1 < D) := by unfold keepE arndE; rw [if_neg (by omega), if_pos hk]
      have e3 : lkI ms (i + 1) = ⟨K.stack.dropLast, K.most, 0, 0, K.good + 1⟩ := by rw [hsuc]; simp [hk]
      rw [e1, e2, e3]
      dsimp only
      by_cases hkp : (K.stack.length : Int) - 1 < D
      · have hN : K.stack.take N = K.stack := List.take_of_length_le (by omega)
        rw [hN] at i3
        have h5 : lkStep (lkR T) e = ⟨(lkR T).stack.dropLast, (lkR T).most, 0, 0, (lkR T).good + 1⟩ := by
          rw [lkStep, if_pos i2, if_pos he, if_neg (by omega), if_neg (by omega), if_pos hk, i3, if_pos hn2]
        rw [decide_eq_true hkp, if_pos rfl, hstp _ hme, h5, i3]
        dsimp only
        refine ⟨by rw [List.length_dropLast]; omega, rfl, (List.take_of_length_le (by rw [List.length_dropLast]; omega)).symm, i4, fun hm => ?_⟩
        rw [hsnT, hme, hsn, i5 hm]
      · rw [decide_eq_false hkp, if_neg (by decide), hT]
        exact ⟨by rw [List.length_dropLast]; omega, i2, by rw [i3, List.dropLast_eq_take, List.take_take, Nat.min_eq_left (by omega)], i4, fun hm => by omega⟩
    · have e1 : opnE e (K.stack.length : Int) = K.stack.length := by unfold opnE; rw [if_neg (by omega), if_neg (by omega)]
      have e2 : keepE D (K.stack.length : Int) e = decide ((K.stack.length : Int) < D) := by unfold keepE arndE; rw [if_neg (by omega), if_neg (by omega)]
      have e3 : lkI ms (i + 1) = ⟨K.stack, max K.most (K.stack.length + 1), 0, 0, K.good + 1⟩ := by rw [hsuc]; simp [hk]
      rw [e1, e2, e3]
      dsimp only
      by_cases hkp : (K.stack.length : Int) < D
      · have h5 : lkStep (lkR T) e = ⟨(lkR T).stack, max (lkR T).most ((lkR T).stack.length + 1), 0, 0, (lkR T).good + 1⟩ := by rw [lkStep, if_pos i2, if_pos he, if_neg (by omega), if_pos hk]
        have hN : K.stack.take N = K.stack := List.take_of_length_le (by omega)
        rw [decide_eq_true hkp, if_pos rfl, hstp _ hme, h5, i3, hN]
        dsimp only
        refine ⟨rfl, rfl, rfl, by omega, fun hm => ?_⟩
        rw [hsnT, hme, hsn, i5 (by omega)]
      · rw [decide_eq_false hkp, if_neg (by decide), hT]
        exact ⟨rfl, i2, i3, i4, fun hm => by omega⟩
theorem trim_all (D : Int) (hD : 0 ≤ D) (ms : List EvM) (h : (lkR (evs ms)).err = 0) : (lkR (evs (trM D ms).2)).err = 0 ∧ (lkR (evs (trM D ms).2)).stack = (lkR (evs ms)).stack.take D.toNat ∧ (lkR (evs (trM D ms).2)).most ≤ D.toNat ∧ ((lkR (evs ms)).most ≤ D.toNat → evs (trM D ms).2 = evs ms) := by
  have h1 := trim_law D hD ms h ms.length (Nat.le_refl _)
  rw [trI_all, lkI_all] at h1
  have : (evs ms).take ms.length = evs ms := by rw [← evs_len, List.take_length]
  rw [this] at h1
  exact h1.2
/-! ## an element around -/
theorem wrap_law (n : List UInt8) (es : List At) (hf : evR (firstE n es) = true) (l : List Ev) : (lkR l).err = 0 → (lkR (firstE n es :: l)).err = 0 ∧ (lkR (firstE n es :: l)).stack = n :: (lkR l).stack ∧ (lkR (firstE n es :: l)).most = (lkR l).most + 1 := by
  refine snoc_ind (p := fun l => (lkR l).err = 0 → (lkR (firstE n es :: l)).err = 0 ∧ (lkR (firstE n es :: l)).stack = n :: (lkR l).stack ∧ (lkR (firstE n es :: l)).most = (lkR l).most + 1) ?_ ?_ l
  · intro _
    have : lkR [firstE n es] = ⟨[n], 1, 0, 0, 1⟩ := by
      show lkStep lk0 (firstE n es) = _
      rw [lkStep, if_pos (show lk0.err = 0 from rfl), if_pos hf, if_pos (show (firstE n es).kind = 1 from rfl)]; rfl
    rw [this]; exact ⟨rfl, rfl, rfl⟩
  · intro l e ih h
    obtain ⟨h0, he⟩ := lk_snoc_ok h
    obtain ⟨a1, a2, a3⟩ := ih h0
    rw [← List.cons_append, lk_snoc, lk_snoc]
    rw [lk_snoc] at h
    generalize lkR (firstE n es :: l) = k2 at *
    generalize lkR l = k at *
    simp only [lkStep, h0, a1, if_true, he] at h ⊢
    rw [a2, a3]
    split
    · exact ⟨rfl, rfl, by simp⟩
    · split
      · exact ⟨rfl, a2 ▸ rfl, by simp⟩
      · split
        · rename_i hk1 hk3 hk2
          rw [if_neg hk1, if_neg hk3, if_pos hk2] at h
          by_cases hg : k.stack.getLast? = some e.name
          · have hne : k.stack ≠ [] := by rintro h4; rw [h4] at hg; cases hg
            have hg2 : (n :: k.stack).getLast? = some e.name := by rw [List.getLast?_cons, hg]; rfl
            rw [if_pos hg, if_pos hg2]
            exact ⟨rfl, by dsimp only; rw [List.dropLast_cons_of_ne_nil hne], rfl⟩
          · rw [if_neg hg] at h; simp at h
        · exact ⟨rfl, a2 ▸ rfl, rfl⟩
theorem wrap_all (n : List UInt8) (es : List At) (hf : evR (firstE n es) = true) (hc : evR (closeE n) = true) {l : List Ev} (h : (lkR l).err = 0) (hs : (lkR l).stack = []) : (lkR (firstE n es :: l ++ [closeE n])).err = 0 ∧ (lkR (firstE n es :: l ++ [closeE n])).stack = [] ∧ (lkR (firstE n es :: l ++ [closeE n])).most = (lkR l).most + 1 ∧
    (foldF (firstE n es :: l ++ [closeE n]) []).1 = [⟨n, [], es, .of (foldF l []).1⟩] := by
  obtain ⟨a1, a2, a3⟩ := wrap_law n es hf l h
  rw [hs] at a2
  have hk : lkStep (lkR (firstE n es :: l)) (closeE n) = ⟨[], (lkR l).most + 1, 0, 0, (lkR (firstE n es :: l)).good + 1⟩ := by
    rw [lkStep, if_pos a1, if_pos hc, if_neg (by simp [closeE]), if_neg (by simp [closeE]), if_pos (show (closeE n).kind = 2 from rfl), a2, if_pos (show [n].getLast? = some (closeE n).name from rfl), a3]; rfl
  have b1 : (lkR (firstE n es :: l ++ [closeE n])).err = 0 := by rw [lk_snoc, hk]
  have b2 : (lkR (firstE n es :: l ++ [closeE n])).stack = [] := by rw [lk_snoc, hk]
  refine ⟨b1, b2, by rw [lk_snoc, hk], ?_⟩
  have h1 := (fold_all b1 b2).2
  have hN := nst_of l h
  have h0 : hL l = 0 := by rw [hN.h, hs]; rfl
  have hlow : lowS l := by
    rintro s ⟨a, rfl⟩
    have h1 := (nst_of a (lk_pre h)).h
    rw [hL_app] at h0
    omega
  rcases fold_mc l.length l (Nat.le_refl _) hlow [] [⟨n, es, []⟩] with ⟨_, _, h3⟩ | ⟨h3, _⟩
  · rw [mc_snoc] at h1
    have h4 : mcR ⟨[], []⟩ (firstE n es :: l) = mcR ⟨[], [⟨n, es, []⟩]⟩ l := rfl
    rw [h4, h3] at h1
    exact (congrArg Mc.out h1).symm
  · omega
end Go.Proofs.YthgbpgjpnaanlaaDoor

/-
  sievelaw18: EventShallow.
-/
set_option linter.unusedSimpArgs false
set_option linter.unusedVariables false
set_option linter.unnecessarySimpa false
namespace Go.Proofs.YthgbpgjpnaanlaaDoor
open Go Go.Sv Go.RowKit
def divB : List UInt8 := [100, 105, 118]
theorem div_open : evR (firstE divB []) = true := by decide +kernel
theorem div_close : evR (closeE divB) = true := by decide +kernel
set_option maxHeartbeats 4000000 in
theorem eventShallow_ok (ms : List EvM) (d : Int) (p : Option Addr) (c : Nat) (hw : evw ms ≤ 1048574) (w : World) (hA : Asc w) (hE : Evs w p ms) :
    PureC Tryd.prog 10 #[.slice p ms.length c, int d] w (.bool true) := by
  have hn : ms.length ≤ 1048574 := by
    have := sum_len (fun m : EvM => m.e.wt) ms (by intro m _; show 1 ≤ Ev.wt m.e; unfold Ev.wt; omega)
    unfold evw at hw; omega
  have hs : ∀ m ∈ ms, m.e.small := fun m hm => Ev.small_of (Nat.le_trans (sum_mem (fun m : EvM => m.e.wt) ms hm) (Nat.le_trans hw (by decide)))
  have hS := Sep.start w
  refine enter (l := [.slice p ms.length c, int d]) Tryd.func10 rfl Tryd.ntmps10 (by kernel_rfl) rfl ?_
  refine sgo ?_
  refine wlpure (depth_ok2 ms p c (by omega) hs w hA hE) fun w1 hf1 => ?_
  replace hS := hS.grow hf1
  refine sgo ?_
  refine wlpure (num18_ok _ _) fun w2 hf2 => ?_
  replace hS := hS.grow hf2
  refine sgo ?_
  by_cases hq : (lkR (evs ms)).err ≠ 0 ∨ d < 0
  · refine wcyes ?_ (ht := by rcases hq with hq | hq <;> simp [pkb_or, hq])
    refine sgo ?_
    refine wlpure (awake18_ok _ (hA.frm hS.frm)) fun w3 hf3 => ?_
    replace hS := hS.grow hf3
    refine sgo ?_
    (first | refine fp1 (.inl rfl) rfl rfl ?_ | refine fp2 (.inl rfl) rfl rfl rfl ?_ | refine fp3 (.inl rfl) rfl rfl rfl rfl ?_ | refine fp0 (.inr rfl) rfl ?_ | refine fp0 (.inl rfl) rfl ?_ | refine fp1 (.inr rfl) rfl rfl ?_); refine ⟨?_, by (first | exact Frm.refl _ | assumption | exact Go.Sv.Sep.frm (by assumption) | (refine Frm.trans ?_ (by assumption); first | exact Frm.refl _ | assumption))⟩; (try simp only [realB, rv_true, Nat.reduceBEq, cond_true, cond_false, entG, real_lif, updGL])
  refine wcno ?_ (ht := by simp [pkb_or]; omega)
  have he : (lkR (evs ms)).err = 0 := by omega
  have hd : 0 ≤ d := by omega
  have hdN := Int.toNat_of_nonneg hd
  have htc : trimC d (lkR (evs ms)) = 0 := by unfold trimC; rw [if_neg (by omega), he]
  obtain ⟨t1, t2, t3, t4⟩ := trim_all d hd ms he
  refine sgo ?_
  refine wlcall (trim_ok d ms p c (by omega) hs w w2 _ hS (hA.frm hS.frm) (hE.frm hS.frm)) ?_
  rintro _ w3 ⟨q1, c1, xs, rfl, hx1, -, hS⟩
  rw [htc] at hx1 ⊢
  rw [if_pos rfl] at hx1
  have hxl : xs.length ≤ ms.length := by
    rw [← evs_len, hx1, evs_len, ← trI_all]; exact (tr_bnd d ms ms.length (Nat.le_refl _)).2.2.1
  have hxs : ∀ m ∈ xs, m.e.small := fun m hm => by
    have h1 : m.e ∈ evs (trM d ms).2 := by rw [← hx1]; exact List.mem_map_of_mem hm
    obtain ⟨m', hm', e⟩ := List.mem_map.1 h1
    rw [← e]; exact hs m' ((tr_bnd d ms ms.length (Nat.le_refl _)).2.2.2 m' (by rw [trI_all]; exact hm'))
  rw [← hx1] at t1 t2 t3 t4
  refine sgo ?_
  refine wlpure (depth_ok2 xs q1 c1 (by omega) hxs w3 (hA.frm hS.frm) (Sep.evs hS 0 1 rfl rfl)) fun w4 hf4 => ?_
  replace hS := hS.grow hf4
  refine sgo ?_
  refine wlcall (open_ok2 ms p c (by omega) hs w w4 _ hS (hA.frm hS.frm) (hE.frm hS.frm)) ?_
  rintro _ w5 ⟨q2, c2, rfl, -, hS⟩
  refine sgo ?_
  refine wlcall (open_ok2 xs q1 c1 (by omega) hxs w w5 _ hS (hA.frm hS.frm) (Sep.evs hS 1 2 rfl rfl)) ?_
  rintro _ w6 ⟨q3, c3, rfl, -, hS⟩
  have ho1 : openS (lkR (evs ms)) = (lkR (evs ms)).stack := if_pos he
  have ho2 : openS (lkR (evs xs)) = (lkR (evs xs)).stack := if_pos t1
  have hd1 : depthS (lkR (evs ms)) = (lkR (evs ms)).most := if_pos he
  have hd2 : depthS (lkR (evs xs)) = (lkR (evs xs)).most := if_pos t1
  rw [ho1, ho2] at hS ⊢
  rw [hd1, hd2, t1, he]
  have hul : (lkR (evs ms)).stack.length = 0 → (lkR (evs xs)).stack.length = 0 := fun h => by
    rw [t2, List.length_take]; omega
  refine sgo ?_
  refine wlpure (num18_ok _ _) fun w7 hf7 => ?_
  replace hS := hS.grow hf7
  refine sgo ?_
  refine wlcallgp (vals := [int 0]) (fun _ => num18_ok _ _) fun w8 hf8 => ?_
  replace hS := hS.grow hf8
  refine sgo ?_
  rw [show decide (d < ((lkR (evs xs)).most : Int)) = false from decide_eq_false (by omega)]
  refine wlcallgp (vals := [.slice q1 xs.length c1, .slice p ms.length c]) (fun _ => eqEv_ok xs ms q1 p c1 c (by omega) (by omega) hxs hs w8 (Sep.evs hS 2 3 rfl rfl) (hE.frm hS.frm)) (fun w9 hf9 => ?_) (ha := fun hgd => am2 (evG hgd (hg := fun h => h)) (evG hgd (hg := fun h => h)))
  replace hS := hS.grow hf9
  refine sgo ?_
  refine wcno ?_ (ht := ?_)
  rotate_left
  · have a2 : decide (((lkR (evs ms)).most : Int) ≤ d) = true → decide (evs xs = evs ms) = true := fun h => decide_eq_true (t4 (by have := of_decide_eq_true h; omega))
    have a3 : decide (((lkR (evs ms)).stack.length : Int) = 0) = true → decide (((lkR (evs xs)).stack.length : Int) ≠ 0) = false := fun h => decide_eq_false (by have := hul (by have := of_decide_eq_true h; omega); omega)
    generalize decide (((lkR (evs ms)).most : Int) ≤ d) = A1 at *
    generalize decide (evs xs = evs ms) = A2 at *
    generalize decide (((lkR (evs ms)).stack.length : Int) = 0) = A3 at *
    generalize decide (((lkR (evs xs)).stack.length : Int) ≠ 0) = A4 at *
    cases A1 <;> cases A2 <;> cases A3 <;> cases A4 <;> first | rfl | exact absurd (a2 rfl) (by decide) | exact absurd (a3 rfl) (by decide)
  refine sgo ?_
  refine wlcall (wrap_ok divB [] ms none p 0 c ⟨by simp [firstE, divB], by simp [firstE], by simp [firstE], by simp [firstE]⟩ (by omega) hs w w9 _ hS (hA.frm hS.frm) (Im.nil _ _ _) (hE.frm hS.frm)) ?_
  rintro _ w10 ⟨q4, c4, ws, rfl, hws, -, hS⟩
  refine sgo ?_
  refine wlpure (num18_ok _ _) fun w11 hf11 => ?_
  replace hS := hS.grow hf11
  have hwc : wrapC (firstE divB []) (lkR (evs ms)) = if (lkR (evs ms)).stack = [] then 0 else 181 := by
    unfold wrapC; rw [if_neg (by rw [div_open]; decide), if_neg (by rw [he]; decide)]
  refine sgo ?_
  by_cases hst : (lkR (evs ms)).stack = []
  · rw [if_pos hst] at hwc
    refine wcno ?_ (ht := by rw [hwc]; rfl)
    rw [wrapE, hwc, if_pos rfl] at hws
    obtain ⟨g1, g2, g3, g4⟩ := wrap_all divB [] div_open div_close he hst
    rw [← hws] at g1 g2 g3 g4
    have hwl : ws.length = ms.length + 2 := by rw [← evs_len, hws]; simp [evs_len]
    have hww : evw ws ≤ 2097152 := by
      rw [evw_wE, hws]
      have : wE (firstE divB [] :: evs ms ++ [closeE divB]) = 7 + wE (evs ms) + 7 := by simp [wE, Ev.wt, firstE, closeE, divB]; omega
      rw [this, ← evw_wE]; omega
    have hwsm : ∀ m ∈ ws, m.e.small := by
      intro m hm
      have h1 : m.e ∈ firstE divB [] :: evs ms ++ [closeE divB] := by rw [← hws]; exact List.mem_map_of_mem hm
      simp only [List.cons_append, List.mem_cons, List.mem_append, List.not_mem_nil, or_false] at h1
      rcases h1 with h1 | h1 | h1
      · rw [h1]; exact ⟨by simp [firstE, divB], by simp [firstE], by simp [firstE], by simp [firstE]⟩
      · obtain ⟨m', hm', e⟩ := List.mem_map.1 h1; rw [← e]; exact hs m' hm'
      · rw [h1]; exact ⟨by simp [closeE, divB], by simp [closeE], by simp [closeE], by simp [closeE]⟩
    have hCw : foldC (lkR (evs ws)) = 0 := by rw [foldC, if_neg (by simpa using g1), if_neg (by simpa using g2)]
    have hCm : foldC (lkR (evs ms)) = 0 := by rw [foldC, if_neg (by simpa using he), if_neg (by simpa using hst)]
    refine sgo ?_
    refine wlpure (depth_ok2 ws q4 c4 (by omega) hwsm w11 (hA.frm hS.frm) (Sep.evs hS 0 1 rfl rfl)) fun w12 hf12 => ?_
    replace hS := hS.grow hf12
    refine sgo ?_
    refine wlcall (fold_ok ws q4 c4 hww (by omega) hwsm w w12 _ hS (hA.frm hS.frm) (Sep.evs hS 0 1 rfl rfl)) ?_
    rintro _ w13 ⟨q5, c5, L1, rfl, hL1, -, -, hS⟩
    refine sgo ?_
    refine wlcall (fold_ok ms p c (by omega) (by omega) hs w w13 _ hS (hA.frm hS.frm) (hE.frm hS.frm)) ?_
    rintro _ w14 ⟨q6, c6, L2, rfl, hL2, -, -, hS⟩
    rw [foldL, if_pos hCw, g4] at hL1
    have hwt2 := foldL_wt hL2
    rw [foldL, if_pos hCm] at hL2
    obtain ⟨m, rfl⟩ : ∃ m, L1 = [m] := by
      cases L1 with
      | nil => cases hL1
      | cons m L =>
        cases L with
        | nil => exact ⟨m, rfl⟩
        | cons m2 L => simp at hL1
    simp only [List.length_singleton] at hS ⊢
    have hmn : m.nd = ⟨divB, [], [], .of (foldF (evs ms) []).1⟩ := by
      have := hL1
      simp only [List.map_cons, List.map_nil, List.cons.injEq, and_true] at this
      exact this
    have hm1 : m.name = divB := congrArg Nd.name hmn
    have hm2 : m.kids.fo = .of (foldF (evs ms) []).1 := congrArg Nd.kids hmn
    have hmw : m.kids.wt ≤ 1048574 := by
      rw [wt_fo, hm2, wN_of]
      have := foldF_wt _ (evs ms) [] (Nat.le_refl _)
      have h0 : wN [] = 0 := rfl
      rw [evw_wE] at hw
      omega
    have hT1 := fun w' (h : Frm w14 w') => ((Sep.treL (hS.grow h) 2 3 rfl rfl).kid (m := m) (by rw [FoM.list_of]; exact List.mem_singleton_self m)).2
    have hT2 := fun w' (h : Frm w14 w') => Sep.treL (hS.grow h) 0 1 rfl rfl
    rw [hCw, hCm]
    have hmb := (lk_bound (evs ms)).2.1
    rw [evs_len] at hmb
    have hdw : depthS (lkR (evs ws)) = (lkR (evs ms)).most + 1 := (if_pos g1).trans g3
    rw [hdw, g1]
    have hk0 : ([m].flatMap NdM.cells)[0]? = some (str divB) := by simp [NdM.cells, hm1]
    have hk3 : ([m].flatMap NdM.cells)[3]? = some (.slice m.kp m.kids.len m.kc) := by simp [NdM.cells]
    have hsq14 : Sg w14 q5 ([m].flatMap NdM.cells) := (hS.row 2 rfl).sg
    have hqs : ∃ a, q5 = some a := hsq14.some (by simp [NdM.cells])
    refine sgo ?_
    refine wlpure (num18_ok _ _) fun w15 hf15 => ?_
    replace hS := hS.grow hf15
    refine sgo ?_
    rw [show decide ((((lkR (evs ms)).most + 1 : Nat) : Int) = ((lkR (evs ms)).most : Int) + 1) = true from decide_eq_true (by omega)]
    refine wlcallgp (vals := [int 0]) (fun _ => num18_ok _ _) fun w16 hf16 => ?_
    replace hS := hS.grow hf16
    refine sgo ?_
    refine wlcallgp (vals := [int 0]) (fun _ => num18_ok _ _) fun w17 hf17 => ?_
    replace hS := hS.grow hf17
    have hsq : Sg w17 q5 ([m].flatMap NdM.cells) := (hS.row 2 rfl).sg
    clear hsq14
    refine sgo ?_
    have htr := trees_ok m.kids.size m.kids (FoM.of L2) m.kp q6 m.kc c6 (Nat.le_refl _) (by omega) (by omega) w17 (hT1 w17 ((hf15.trans hf16).trans hf17)) (hT2 w17 ((hf15.trans hf16).trans hf17))
    rw [len_of, hm2, show (FoM.of L2).fo = Fo.of (foldF (evs ms) []).1 from by rw [fo_of, hL2], decide_eq_true rfl] at htr
    refine wlcallgp (vals := [.slice m.kp m.kids.len m.kc, .slice q6 L2.length c6]) (fun _ => htr) (fun w18 hf18 => ?_) (ha := fun hgd => am2 (evG hgd (hg := fun h => h)) (evG hgd (hg := fun h => h)))
    replace hS := hS.grow hf18
    refine sgo ?_
    refine wlcallgp (vals := []) (fun _ => awake18_ok _ (hA.frm hS.frm)) (fun w19 hf19 => ?_) (ha := fun _ => rfl)
    replace hS := hS.grow hf19
    refine sgo ?_
    (first | refine fp1 (.inl rfl) rfl rfl ?_ | refine fp2 (.inl rfl) rfl rfl rfl ?_ | refine fp3 (.inl rfl) rfl rfl rfl rfl ?_ | refine fp0 (.inr rfl) rfl ?_ | refine fp0 (.inl rfl) rfl ?_ | refine fp1 (.inr rfl) rfl rfl ?_); refine ⟨?_, by (first | exact Frm.refl _ | assumption | exact Go.Sv.Sep.frm (by assumption) | (refine Frm.trans ?_ (by assumption); first | exact Frm.refl _ | assumption))⟩; (try simp only [realB, rv_true, Nat.reduceBEq, cond_true, cond_false, entG, real_lif, updGL])
    simp [pkb]
    exact hm1
  · rw [if_neg hst] at hwc
    refine wcyes ?_ (ht := by rw [hwc]; rfl)
    have hpos : 0 < (lkR (evs ms)).stack.length := List.length_pos_iff.2 hst
    refine sgo ?_
    refine wlcallgp (vals := []) (fun _ => awake18_ok _ (hA.frm hS.frm)) (fun w12 hf12 => ?_) (ha := fun _ => rfl)
    replace hS := hS.grow hf12
    refine sgo ?_
    (first | refine fp1 (.inl rfl) rfl rfl ?_ | refine fp2 (.inl rfl) rfl rfl rfl ?_ | refine fp3 (.inl rfl) rfl rfl rfl rfl ?_ | refine fp0 (.inr rfl) rfl ?_ | refine fp0 (.inl rfl) rfl ?_ | refine fp1 (.inr rfl) rfl rfl ?_); refine ⟨?_, by (first | exact Frm.refl _ | assumption | exact Go.Sv.Sep.frm (by assumption) | (refine Frm.trans ?_ (by assumption); first | exact Frm.refl _ | assumption))⟩; (try simp only [realB, rv_true, Nat.reduceBEq, cond_true, cond_false, entG, real_lif, updGL])
    simp [pkb]
    omega
end Go.Proofs.YthgbpgjpnaanlaaDoor

/-
  From a frame to what a row asks behind the call: nothing that was there has turned (new blocks may be frozen).
-/
set_option linter.unusedSimpArgs false
set_option linter.unusedVariables false
set_option linter.unnecessarySimpa false
namespace Go.ChangeShapes
section
variable {H : Type} {enc : TypeId × Value → H} {P : Program}
theorem post_frm {f : Func} {s : ChangeSpec} {apart fresh handsOn again : Bool} {W W' : World} {args : Array Value} {v : Value} {ds gs : List (DataW H)} {before pa pv : List MemPlace}
    (hW : DataW.Whole enc P f.params.toList s.vars apart W args.toList ds gs before)
    (hres : ∀ (b : Nat) (sp : Nat → Bool) (hd : Bool), DataW.TrodAll enc P W' b sp hd f.resultTypes.toList (v.resultList f.resultTypes.size) (s.fn H (ds ++ gs)).results [])
    (hargs : ∀ sp : Nat → Bool, (∀ p ∈ before, sp p.block = true) → DataW.TrodAll enc P W' 0 sp true f.params.toList args.toList (s.fn H (ds ++ gs)).args pa)
    (hvars : ∀ sp : Nat → Bool, (∀ p ∈ before, sp p.block = true) → DataW.TrodVars enc P W' sp s.vars (s.fn H (ds ++ gs)).vars pv)
    (hps : before = pa ++ pv) (hk : Sv.Frm W W')
    (hok : ∀ (j : Nat) (t : TypeId) (r : Value), f.resultTypes[j]? = some t → (v.resultList f.resultTypes.size)[j]? = some r → Value.okWide P W' .any 0 t r) :
    s.post enc P f apart fresh handsOn again W args v W' := by
  have hold : ∀ p ∈ before, (fun b => decide (b < W.heap.size)) p.block = true := fun p hp => by simpa using hW.lt p hp
  refine ⟨ds, gs, before, [], pa, pv, hW, hres _ _ _, hargs _ hold, hvars _ hold, World.keptBut_mono (fun p hp => ⟨hp, ?_⟩) (RowKit.Below.frame hk (· ∈ before)), fun _ => ?_⟩
  · rw [hps, List.mem_append] at hp
    exact Or.inr hp
  · have hlt := hW.lt
    obtain ⟨_, _, _, _, _, hz, hn⟩ := hW
    refine ⟨hok, _, _, ([] ++ pa) ++ pv, ⟨[] ++ pa, pv, trodAll_append (hargs _ (fun _ _ => rfl)) (hres _ _ _), hvars _ (fun _ _ => rfl), rfl, ?_, ?_⟩, ?_⟩
    · intro b off hp
      have hp' : (.cell b off : MemPlace) ∈ before := by rw [hps]; simpa using hp
      rw [RowKit.Below.frozen hk (hlt _ hp')]
      exact hz b off hp'
    · intro ha
      have := hn ha
      rw [hps] at this
      simpa using this
    · intro p hp _
      rw [hps]
      simpa using hp
end
end Go.ChangeShapes

/-
  From a reading of the arguments to what lies in memory; and back: a law leaves the arguments as they were.
-/
set_option linter.unusedSimpArgs false
set_option linter.unusedVariables false
set_option linter.unnecessarySimpa false
namespace Go.Sv
open Go Go.RowKit Go.ChangeShapes Go.WideShapes
theorem cell_lt {w : World} {a : Addr} {v : Value} (h : w.cell? a = some v) : a.block < w.heap.size := by
  rcases Nat.lt_or_ge a.block w.heap.size with h1 | h1
  · exact h1
  · have : w.heap[a.block]? = none := Array.getElem?_eq_none h1
    simp [World.cell?, this] at h
theorem seg_app {w : World} {a : Addr} {l l' : List Value} (h : seg w a l) (h' : seg w (a.add l.length) l') : seg w a (l ++ l') := by
  intro i hi
  rcases Nat.lt_or_ge i l.length with h1 | h1
  · rw [h i h1, List.getElem?_append_left h1]
  · have := h' (i - l.length) (by simp at hi; omega)
    rw [add_add, show l.length + (i - l.length) = i by omega] at this
    rw [this, List.getElem?_append_right h1]
theorem seg_range {w : World} {a : Addr} {k : Nat} (f : Nat → List Value) : ∀ n : Nat, (∀ i, i < n → (f i).length = k ∧ seg w (a.add (i * k)) (f i)) → seg w a ((List.range n).flatMap f) ∧ ((List.range n).flatMap f).length = n * k
  | 0, _ => ⟨fun i hi => by simp at hi, by simp⟩
  | n + 1, h => by
    obtain ⟨h1, h2⟩ := seg_range f n fun i hi => h i (by omega)
    obtain ⟨h3, h4⟩ := h n (by omega)
    rw [List.range_succ, List.flatMap_append]
    simp only [List.flatMap_cons, List.flatMap_nil, List.append_nil]
    refine ⟨seg_app h1 (by rw [h2]; exact h4), ?_⟩
    rw [List.length_append, h2, h3, Nat.succ_mul]
/-- a law's ending: it answered true, and left all as it was -/
theorem trodAll_frm {H : Type} {enc : TypeId × Value → H} {P : Program} (hl : laidOutB P = true) {W W' : World} (hf : Sv.Frm W W') {sp : Nat → Bool} : ∀ {ts : List TypeId} {vs : List Value} {ds : List (DataW H)} {ps : List MemPlace},
    (∀ t ∈ ts, P.readableRec t = true ∧ t < P.types.size) → DataW.TrodAll enc P W 0 (fun _ => true) true ts vs ds ps → (∀ p ∈ ps, p.block < W.heap.size) → (∀ p ∈ ps, sp p.block = true) → DataW.TrodAll enc P W' 0 sp true ts vs ds ps
  | [], [], [], _, _, h, _, _ => h
  | t :: ts, v :: vs, d :: ds, _, ht, ⟨p, q, h1, h2, e⟩, hlt, hs => by
    subst e
    refine ⟨p, q, ?_, ?_, rfl⟩
    · obtain ⟨hr, hrow⟩ := ht t List.mem_cons_self
      exact WideElems.Trod_stays hl hr hrow h1 (fun x hx => RowKit.Below.same hf (hlt x (List.mem_append_left _ hx))) fun x hx => hs x (List.mem_append_left _ hx)
    · exact trodAll_frm hl hf (fun t ht' => ht t (List.mem_cons_of_mem _ ht')) h2 (fun x hx => hlt x (List.mem_append_right _ hx)) fun x hx => hs x (List.mem_append_right _ hx)
theorem law_ends {H : Type} {enc : TypeId × Value → H} {P : Program} {f : Func} {s : ChangeSpec} {W W' : World} {args : Array Value} {ds gs : List (DataW H)} {before : List MemPlace} {tb : TypeId}
    (hl : laidOutB P = true) (hT : ∀ t ∈ f.params.toList, P.readableRec t = true ∧ t < P.types.size) (hv : s.vars = []) (hrt : f.resultTypes = #[tb]) (hb : P.underlying tb = some .bool)
    (hW : DataW.Whole enc P f.params.toList s.vars false W args.toList ds gs before) (hfn : s.fn H (ds ++ gs) = { results := [.lit (.bool true)], args := ds ++ gs }) (hg : Frm W W') :
    s.post enc P f false true false false W args (.bool true) W' := by
  have hW' := hW
  have hlt := hW.lt
  obtain ⟨p, q, hA, hV, rfl, _, _⟩ := hW
  rw [hv] at hV
  obtain ⟨rfl, rfl⟩ := trodVars_none hV
  have hrl : (Value.bool true).resultList f.resultTypes.size = [.bool true] := by rw [hrt]; rfl
  simp only [List.append_nil] at hlt hfn
  refine post_frm (pa := p) (pv := []) hW' (fun _ _ _ => ?_) (fun sp hsp => ?_) (fun _ _ => ?_) rfl hg (ok_one hrt rfl (okWide_bool_mk hb _))
  · rw [hrt]
    simp only [List.append_nil, hfn]
    exact trodAll_cons_mk (shut_bool hb _) trodAll_mk0
  · simp only [List.append_nil, hfn]
    exact trodAll_frm hl hg hT hA hlt (fun x hx => hsp x (by simpa using hx))
  · simp only [List.append_nil, hfn, hv]
    rfl
end Go.Sv
namespace Go.Proofs.YthgbpgjpnaanlaaDoor
open Go Go.Sv Go.RowKit Go.ChangeShapes Go.WideShapes Go.Deep

theorem laidOut : laidOutB Tryd.prog = true := by kernel_rfl
theorem own : ownKnob Tryd.prog.godebug = none := by kernel_rfl

section
variable {H : Type} {P : Program} {enc : TypeId × Value → H} {w : World} {base : Nat} {spare : Nat → Bool} {held : Bool}
theorem bulkAll_eq : ∀ l : List (DataW H), Rows.uptoBulkAll l = (l.map Rows.uptoBulk).sum
  | [] => by simp [Rows.uptoBulkAll]
  | d :: l => by simp only [Rows.uptoBulkAll, List.map_cons, List.sum_cons, bulkAll_eq l]
theorem bulk_slice (es rs : List (DataW H)) : Rows.uptoBulk (.slice es rs) = (es.map Rows.uptoBulk).sum + (rs.map Rows.uptoBulk).sum + 1 := by simp only [Rows.uptoBulk, bulkAll_eq]
theorem bulk_agg (es : List (DataW H)) : Rows.uptoBulk (.agg es) = (es.map Rows.uptoBulk).sum + 1 := by simp only [Rows.uptoBulk, bulkAll_eq]
theorem bulk_nil : Rows.uptoBulk (.nil : DataW H) = 1 := by simp only [Rows.uptoBulk]
theorem bulk_str (l : List UInt8) : Rows.uptoBulk (.lit (.string l) : DataW H) = l.length + 1 := by simp only [Rows.uptoBulk]
theorem bulk_int (k : IntKind) (n : Int) : Rows.uptoBulk (.lit (.int k n) : DataW H) = 1 := by simp only [Rows.uptoBulk]
/-- a slice of records: what they are, where they lie, and what they hold together -/
theorem open_recs {t e : TypeId} {fuel : Nat} {cs : List Value} {x : DataW H × List MemPlace} {α : Type} (cells : α → List Value) (wt : α → Nat) (Q : α → Prop) (ht : P.underlying t = some (.slice e))
    (h : DataW.trod enc P w base spare held fuel t cs = some x)
    (hrec : ∀ k cs' y, cs'.length = P.cellsOf e → DataW.trod enc P w base spare held k e cs' = some y → ∃ r, cs' = cells r ∧ Q r ∧ wt r ≤ Rows.uptoBulk y.1) :
    ∃ (p : Option Addr) (c : Nat) (rs : List α), cs = [.slice p rs.length c] ∧ rs.length ≤ c ∧ c ≤ maxLen ∧ Im [] w p (rs.flatMap cells) ∧ (∀ r ∈ rs, Q r) ∧ (rs.map wt).sum + 1 ≤ Rows.uptoBulk x.1 := by
  rcases open_slice ht h with ⟨rfl, rfl⟩ | ⟨a, len, cap, m, n, D, Pl, rfl, _, hl, hm, hmm, rfl, hi⟩
  · exact ⟨none, 0, [], rfl, Nat.le_refl _, Nat.zero_le _, .inl rfl, by simp, by simp [bulk_nil]⟩
  · have hlm : len ≤ m := by rw [hmm]; split <;> omega
    have key : ∀ n : Nat, n ≤ len → ∃ rs : List α, rs.length = n ∧ rs.flatMap cells = (List.range n).flatMap (fun i => (w.cells? base (a.add (i * P.cellsOf e)) (P.cellsOf e)).getD []) ∧ (∀ r ∈ rs, Q r) ∧ (rs.map wt).sum ≤ ((List.range n).map fun i => Rows.uptoBulk (D i)).sum := by
      intro n
      induction n with
      | zero => intro _; exact ⟨[], rfl, rfl, by simp, by simp⟩
      | succ n ih =>
        intro hn
        obtain ⟨rs, h1, h2, h3, h4⟩ := ih (by omega)
        obtain ⟨cs', h5, h6⟩ := hi n (by omega)
        obtain ⟨_, hcl, _⟩ := World.cells?_some h5
        obtain ⟨r, h7, h8, h9⟩ := hrec _ _ _ hcl h6
        refine ⟨rs ++ [r], by simp [h1], ?_, ?_, ?_⟩
        · rw [List.range_succ, List.flatMap_append, List.flatMap_append, h2]
          simp [h5, h7]
        · intro x hx
          rcases List.mem_append.1 hx with hx | hx
          · exact h3 x hx
          · rw [List.mem_singleton.1 hx]; exact h8
        · rw [List.range_succ, List.map_append, List.map_append, List.sum_append, List.sum_append]
          simp only [List.map_cons, List.map_nil, List.sum_cons, List.sum_nil]
          dsimp only at h9
          omega
    obtain ⟨rs, h1, h2, h3, h4⟩ := key len (Nat.le_refl _)
    refine ⟨some a, cap, rs, by rw [h1], by omega, hm, ?_, h3, ?_⟩
    · rw [h2]
      have hsr := seg_range (w := w) (a := a) (k := P.cellsOf e) (fun i => (w.cells? base (a.add (i * P.cellsOf e)) (P.cellsOf e)).getD []) len (fun i hil => by
        obtain ⟨cs', h5, _⟩ := hi i (by omega)
        obtain ⟨_, hcl, hat⟩ := World.cells?_some h5
        rw [h5]
        exact ⟨hcl, fun j hj => hat j (by simpa [hcl] using hj)⟩)
      generalize (List.range len).flatMap (fun i => (w.cells? base (a.add (i * P.cellsOf e)) (P.cellsOf e)).getD []) = L at *
      cases L with
      | nil => exact .inl rfl
      | cons v L =>
        refine .inr ⟨a, rfl, hsr.1, ?_, by simp⟩
        have := hsr.1 0 (by simp)
        have h0 : w.cell? (a.add 0) = some v := this
        have := cell_lt h0
        rwa [add_block] at this
    · rw [bulk_slice, List.map_map]
      have : ((List.range len).map (Rows.uptoBulk ∘ D)).sum = ((List.range len).map fun i => Rows.uptoBulk (D i)).sum := rfl
      omega
theorem str_of (s : ByteArray) : Value.string s = str s.data.toList := by cases s; rfl
/-- a cell that is a text -/
theorem open_strc {t : TypeId} {fuel : Nat} {cs : List Value} {x : DataW H × List MemPlace} (ht : P.underlying t = some .string) (h : DataW.trod enc P w base spare held fuel t cs = some x) : ∃ l : List UInt8, cs = [str l] ∧ Rows.uptoBulk x.1 = l.length + 1 := by
  obtain ⟨s, rfl, rfl, _⟩ := DataW.trod_string ht h
  exact ⟨s.data.toList, by rw [str_of], bulk_str _⟩
theorem open_intc {t : TypeId} {k : IntKind} {fuel : Nat} {cs : List Value} {x : DataW H × List MemPlace} (ht : P.underlying t = some (.int k)) (h : DataW.trod enc P w base spare held fuel t cs = some x) : ∃ n : Int, cs = [.int k n] ∧ k.min ≤ n ∧ n ≤ k.max ∧ Rows.uptoBulk x.1 = 1 := by
  obtain ⟨n, rfl, rfl, hw⟩ := DataW.trod_int ht h
  simp only [Lit.wf, IntKind.has, Bool.and_eq_true, decide_eq_true_eq] at hw
  exact ⟨n, rfl, hw.1, hw.2, bulk_int _ _⟩
theorem small_le {ds : List (DataW H)} (hk : Rows.uptoSmall H ds = true) : (ds.map Rows.uptoBulk).sum ≤ 1048576 := by
  have := of_decide_eq_true hk
  rwa [bulkAll_eq] at this
end
end Go.Proofs.YthgbpgjpnaanlaaDoor

/-
  Readings of attributes: what lies in memory.
-/
set_option linter.unusedSimpArgs false
set_option linter.unusedVariables false
set_option linter.unnecessarySimpa false
namespace Go.Proofs.YthgbpgjpnaanlaaDoor
open Go Go.Sv Go.RowKit Go.ChangeShapes Go.WideShapes Go.Deep

theorem c_str : Tryd.prog.cellsOf 9 = 1 := by kernel_rfl
theorem c_attrs : Tryd.prog.cellsOf 46 = 1 := by kernel_rfl
theorem c_attr : Tryd.prog.cellsOf 51 = 2 := by kernel_rfl
section
variable {H : Type} {enc : TypeId × Value → H} {w : World} {base : Nat} {spare : Nat → Bool} {held : Bool}
set_option maxRecDepth 100000 in
theorem open_at {fuel : Nat} {cs : List Value} {x : DataW H × List MemPlace} (h : DataW.trod enc Tryd.prog w base spare held fuel 51 cs = some x) : ∃ r : At, cs = r.cells ∧ True ∧ r.wt ≤ Rows.uptoBulk x.1 := by
  obtain ⟨xs, n, _, rfl, hl, hlen, hf⟩ := DataW.trod_struct Tryd.underlying51 h
  rw [c_attr] at hl
  have f0 := hf 0 _ rfl
  have f1 := hf 1 _ rfl
  clear hf h
  match cs, hl with
  | [c0, c1], _ =>
    match xs, hlen with
    | [y0, y1], _ =>
      simp only [c_str, List.drop_zero, List.drop_succ_cons, List.take_succ_cons, List.take_zero, List.getElem?_cons_zero, List.getElem?_cons_succ] at f0 f1
      obtain ⟨l0, e0, b0⟩ := open_strc Tryd.underlying9 f0
      obtain ⟨l1, e1, b1⟩ := open_strc Tryd.underlying9 f1
      injection e0 with e0
      injection e1 with e1
      subst e0 e1
      refine ⟨⟨l0, l1⟩, rfl, trivial, ?_⟩
      rw [bulk_agg]
      simp only [List.map_cons, List.map_nil, List.sum_cons, List.sum_nil, b0, b1, At.wt]
      omega
end
end Go.Proofs.YthgbpgjpnaanlaaDoor

/-
  Readings of events: what lies in memory.
-/
set_option linter.unusedSimpArgs false
set_option linter.unusedVariables false
set_option linter.unnecessarySimpa false
namespace Go.Proofs.YthgbpgjpnaanlaaDoor
open Go Go.Sv Go.RowKit Go.ChangeShapes Go.WideShapes Go.Deep
theorem c_ekind : Tryd.prog.cellsOf 45 = 1 := by kernel_rfl
theorem c_ev : Tryd.prog.cellsOf 48 = 4 := by kernel_rfl
section
variable {H : Type} {enc : TypeId × Value → H} {w : World} {base : Nat} {spare : Nat → Bool} {held : Bool}
set_option maxRecDepth 100000 in
theorem open_ev {fuel : Nat} {cs : List Value} {x : DataW H × List MemPlace} (h : DataW.trod enc Tryd.prog w base spare held fuel 48 cs = some x) : ∃ r : EvM, cs = r.cells ∧ Im [] w r.p (r.e.attrs.flatMap At.cells) ∧ r.e.wt ≤ Rows.uptoBulk x.1 := by
  obtain ⟨xs, n, _, rfl, hl, hlen, hf⟩ := DataW.trod_struct Tryd.underlying48 h
  rw [c_ev] at hl
  have f0 := hf 0 _ rfl
  have f1 := hf 1 _ rfl
  have f2 := hf 2 _ rfl
  have f3 := hf 3 _ rfl
  clear hf h
  match cs, hl with
  | [c0, c1, c2, c3], _ =>
    match xs, hlen with
    | [y0, y1, y2, y3], _ =>
      simp only [c_str, c_ekind, c_attrs, List.drop_zero, List.drop_succ_cons, List.take_succ_cons, List.take_zero, List.getElem?_cons_zero, List.getElem?_cons_succ] at f0 f1 f2 f3
      obtain ⟨k, e0, _, _, b0⟩ := open_intc Tryd.underlying45 f0
      obtain ⟨l1, e1, b1⟩ := open_strc Tryd.underlying9 f1
      obtain ⟨l2, e2, b2⟩ := open_strc Tryd.underlying9 f2
      obtain ⟨p, c, es, e3, _, _, him, _, b3⟩ := open_recs At.cells At.wt (fun _ => True) Tryd.underlying46 f3 (fun k cs' y _ hy => open_at hy)
      injection e0 with e0; injection e1 with e1; injection e2 with e2; injection e3 with e3
      subst e0 e1 e2 e3
      refine ⟨⟨⟨k, l1, l2, es⟩, p, c⟩, rfl, him, ?_⟩
      simp only [bulk_agg, List.map_cons, List.map_nil, List.sum_cons, List.sum_nil, b0, b1, b2]
      unfold Ev.wt
      dsimp only at b3 ⊢
      omega
set_option maxRecDepth 100000 in
theorem open_evs {v : Value} {d : DataW H} {ps : List MemPlace} {r : Reach} {b0 : Nat} (hv : Value.okWide Tryd.prog w r b0 25 v) (h : DataW.Trod enc Tryd.prog w base spare held 25 v d ps) :
    ∃ (p : Option Addr) (c : Nat) (ms : List EvM), v = .slice p ms.length c ∧ Evs w p ms ∧ evw ms + 1 ≤ Rows.uptoBulk d := by
  obtain ⟨a, n, cc, rfl⟩ := okWide_slice Tryd.underlying25 hv
  obtain ⟨fuel, hf⟩ := h
  obtain ⟨p, c, ms, e, _, _, him, hQ, hw⟩ := open_recs EvM.cells (fun m => m.e.wt) (fun m => Im [] w m.p (m.e.attrs.flatMap At.cells)) Tryd.underlying25 hf (fun k cs' y _ hy => open_ev hy)
  have e' : Value.slice a n cc = .slice p ms.length c := by simpa [Value.cells] using e
  exact ⟨p, c, ms, e', ⟨him, hQ⟩, hw⟩
end
end Go.Proofs.YthgbpgjpnaanlaaDoor

/-
  Readings of arguments of one cell: numbers, truth values.
-/
set_option linter.unusedSimpArgs false
set_option linter.unusedVariables false
set_option linter.unnecessarySimpa false
namespace Go.Proofs.YthgbpgjpnaanlaaDoor
open Go Go.Sv Go.RowKit Go.ChangeShapes Go.WideShapes Go.Deep
set_option maxRecDepth 100000 in
theorem open_int1 {H : Type} {enc : TypeId × Value → H} {w : World} {base : Nat} {spare : Nat → Bool} {held : Bool} {v : Value} {d : DataW H} {ps : List MemPlace} {r : Reach} {b0 : Nat} (hv : Value.okWide Tryd.prog w r b0 3 v) (h : DataW.Trod enc Tryd.prog w base spare held 3 v d ps) :
    ∃ n : Int, v = .int .i64 n ∧ IntKind.min .i64 ≤ n ∧ n ≤ IntKind.max .i64 ∧ 1 ≤ Rows.uptoBulk d := by
  obtain ⟨s, rfl⟩ := okWide_int Tryd.underlying3 hv
  obtain ⟨fuel, hf⟩ := h
  obtain ⟨l, e, h1, h2, hw⟩ := open_intc Tryd.underlying3 hf
  dsimp only at hw
  exact ⟨l, by simpa [Value.cells] using e, h1, h2, by omega⟩
end Go.Proofs.YthgbpgjpnaanlaaDoor

/-
  Readings of arguments of one cell: texts.
-/
set_option linter.unusedSimpArgs false
set_option linter.unusedVariables false
set_option linter.unnecessarySimpa false
namespace Go.Proofs.YthgbpgjpnaanlaaDoor
open Go Go.Sv Go.RowKit Go.ChangeShapes Go.WideShapes Go.Deep
section
variable {H : Type} {enc : TypeId × Value → H} {w : World} {base : Nat} {spare : Nat → Bool} {held : Bool}
end
end Go.Proofs.YthgbpgjpnaanlaaDoor

/-
  What a row's list says of the table of blanks; a world for the witness.
-/
set_option linter.unusedSimpArgs false
set_option linter.unusedVariables false
set_option linter.unnecessarySimpa false
namespace Go.Proofs.YthgbpgjpnaanlaaDoor
open Go Go.Sv Go.RowKit Go.ChangeShapes Go.WideShapes Go.ChangeAt

theorem laid_at {P : Program} {W : World} {name : String} {d : DataW Unit} : ∀ {laid : List (String × DataW Unit)} {ps : List MemPlace}, DataW.LaidVars P W laid ps → (name, d) ∈ laid →
    ∃ g t cs fuel p, P.globalNamed name = some g ∧ (P.globals[g]?).map (·.type) = some t ∧ W.var? P name = some cs ∧ DataW.trod (fun _ => ()) P W 0 (fun _ => true) false fuel t cs.toList = some (d, p)
  | [], _, _, hm => by cases hm
  | x :: laid, ps, h, hm => by
    obtain ⟨g', t', cs, fuel, p, q, hg', ht', hvar, hd, hr, _⟩ := h
    rcases List.mem_cons.1 hm with rfl | hm
    · exact ⟨g', t', cs, fuel, p, hg', ht', hvar, hd⟩
    · exact laid_at hr hm
theorem gAscType : (Tryd.prog.globals[0]?).map (·.type) = some 160 := by kernel_rfl
set_option maxRecDepth 100000 in
theorem asc_of {W : World} {laid : List (String × DataW Unit)} (h : laidMet Tryd.prog laid W) (hm : ("strings.asciiSpace", Rows.laid_strings_asciiSpace) ∈ laid) : Asc W := by
  obtain ⟨ps, hL, _⟩ := h
  obtain ⟨g', t', cs, fuel, p, hg', ht', hvar, hd⟩ := laid_at hL hm
  obtain rfl := Option.some.inj (gAsc.symm.trans hg')
  obtain rfl := Option.some.inj (gAscType.symm.trans ht')
  have e : (Rows.laid_strings_asciiSpace : DataW Unit) = Lib.tabData .u8 Lib.asciiSpaceTab := by kernel_rfl
  rw [e] at hd
  unfold Asc Lib.TabIs
  rw [hvar, ← Lib.cells_of_tab Tryd.underlying160 Tryd.underlying5 (by kernel_rfl) (by kernel_rfl) hd]
/-- a world for the witness: the variables hold what their initialisers lay -/
noncomputable def ascHeap (h : Array Obj) : Array Obj :=
  (((h.modify 0 fun | .cells _ t f => .cells (Lib.asciiSpaceTab.map fun z => Value.int .u8 z).toArray t f | o => o).modify 1 fun
    | .cells _ t f => .cells #[.pointer (some ⟨h.size, 0, none⟩)] t f | o => o).push (.cells #[.slice (some ⟨h.size + 1, 0, none⟩) 7 7, .slice none 0 0, .int .i64 2] 201 (0, 0))).push
    (.cells (([9, 13, 1, 32, 133, 101, 160, 5760, 5600, 8192, 8202, 1, 8232, 8233, 1, 8239, 8287, 48, 12288, 12288, 1] : List Int).map fun z => Value.int .u16 z).toArray 204 (0, 0))
noncomputable def ascWorld (os : Os) : World := { World.holding Tryd.prog os ⟨#[], #[], []⟩ with heap := ascHeap (World.holding Tryd.prog os ⟨#[], #[], []⟩).heap }
end Go.Proofs.YthgbpgjpnaanlaaDoor

