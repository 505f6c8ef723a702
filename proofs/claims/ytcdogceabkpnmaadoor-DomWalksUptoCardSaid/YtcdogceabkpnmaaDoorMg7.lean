/-
  Our texts SvDf, SvDg, SvDb, SvDo, joined.
-/
import Derived.Test.YtcdogceabkpnmaaDoorMg6
/-
  Chapter 21: sieveref21: Merge; sievelaw21: spoil.
-/
set_option linter.unusedSimpArgs false
set_option linter.unusedVariables false
set_option linter.unnecessarySimpa false
namespace Go.Sv
open Go Go.RowKit
section
variable {w0 w w' : World} {cs : List Plot} {r : RowD} {rs A B : List RowD}
/-- the first of many, by itself -/
theorem Sep.uncons (h : Sep w0 w (pMany (r :: rs) :: cs)) : Sep w0 w (pRow r.size r.p r.n r.c r.xs :: pMany rs :: cs) := by
  refine h.part (fun hc => ?_) (fun x hx => ?_) (fun x hx => ?_)
  · obtain ⟨h1, h2⟩ := hc
    rw [List.pairwise_cons] at h2
    refine ⟨h1 r List.mem_cons_self, ⟨fun y hy => h1 y (List.mem_cons_of_mem _ hy), h2.2⟩, fun x hx hx' => ?_⟩
    obtain ⟨y, hy, hxy⟩ := List.mem_flatMap.1 hx'
    exact h2.1 y hy x hx hxy
  · exact List.mem_flatMap.2 ⟨r, List.mem_cons_self, hx⟩
  · obtain ⟨y, hy, hxy⟩ := List.mem_flatMap.1 hx
    exact List.mem_flatMap.2 ⟨y, List.mem_cons_of_mem _ hy, hxy⟩
theorem Sep.unboth (h : Sep w0 w (pMany (A ++ B) :: cs)) : Sep w0 w (pMany A :: pMany B :: cs) := by
  refine h.part (fun hc => ?_) (fun x hx => ?_) (fun x hx => ?_)
  · obtain ⟨h1, h2⟩ := hc
    rw [List.pairwise_append] at h2
    refine ⟨⟨fun y hy => h1 y (List.mem_append_left _ hy), h2.1⟩, ⟨fun y hy => h1 y (List.mem_append_right _ hy), h2.2.1⟩, fun x hx hx' => ?_⟩
    obtain ⟨y, hy, hxy⟩ := List.mem_flatMap.1 hx
    obtain ⟨z, hz, hxz⟩ := List.mem_flatMap.1 hx'
    exact h2.2.2 y hy z hz x hxy hxz
  · obtain ⟨y, hy, hxy⟩ := List.mem_flatMap.1 hx
    exact List.mem_flatMap.2 ⟨y, List.mem_append_left _ hy, hxy⟩
  · obtain ⟨y, hy, hxy⟩ := List.mem_flatMap.1 hx
    exact List.mem_flatMap.2 ⟨y, List.mem_append_right _ hy, hxy⟩
end
end Go.Sv
namespace Go.Proofs.YtcdogceabkpnmaaDoor
open Go Go.Sv Go.RowKit
/-- the first of the nodes, its rows by themselves -/
theorem Sep.unnode {w0 w : World} {cs : List Plot} {m : NdM} {L : List NdM} (h : Sep w0 w (pMany ((m :: L).flatMap NdM.rows) :: cs)) : Sep w0 w (pRow 2 m.ap m.attrs.length m.ac (m.attrs.flatMap At.cells) :: pRow 4 m.kp m.kids.len m.kc (m.kids.list.flatMap NdM.cells) :: pMany m.kids.rows :: pMany (L.flatMap NdM.rows) :: cs) := by
  rw [List.flatMap_cons] at h
  have h1 := h.uncons
  have h2 := (h1.front 1 rfl).uncons
  have h3 := (h2.front 1 rfl).unboth
  -- many kids, many L, kids, attrs
  exact ((h3.front 2 rfl).front 3 rfl)
/-- one node more, merged -/
def stepM (out : List Nd) (m : Nd) : List Nd := if m.name = [] then putT out m.text m.attrs m.kids else out ++ [⟨m.name, m.text, m.attrs, .of (m.kids.merge [])⟩]
theorem stepM_nd (out : List Nd) (m : NdM) : stepM out m.nd = if m.name = [] then putT out m.text m.attrs m.kids.fo else out ++ [⟨m.name, m.text, m.attrs, .of (m.kids.fo.merge [])⟩] := rfl
theorem merge_of (l : List Nd) (out : List Nd) : (Fo.of l).merge out = l.foldl stepM out := by
  induction l generalizing out with
  | nil => rfl
  | cons m l ih => simp only [Fo.of, Fo.merge, List.foldl_cons, ih, stepM]
def mgT (f : FoM) (i : Nat) : List Nd := (ndT f i).foldl stepM []
theorem mgT_all (f : FoM) : mgT f f.len = f.fo.merge [] := by rw [mgT, ndT_all, fo_list, merge_of]
theorem mgT_succ {f : FoM} {i : Nat} {m : NdM} (h : f.list[i]? = some m) : mgT f (i + 1) = stepM (mgT f i) m.nd := by
  unfold mgT; rw [ndT_succ h, List.foldl_append]; rfl
/-- the length of all texts up to a place -/
def tlT (f : FoM) (i : Nat) : Nat := ((ndT f i).map fun m => m.text.length).sum
theorem tlT_succ {f : FoM} {i : Nat} {m : NdM} (h : f.list[i]? = some m) : tlT f (i + 1) = tlT f i + m.text.length := by
  unfold tlT; rw [ndT_succ h]; simp [NdM.nd]
theorem tl_wt (f : FoM) : ((f.list.map NdM.nd).map fun m => m.text.length).sum ≤ f.wt := by
  induction f with
  | nil => exact Nat.le_refl _
  | cons n t es ap ac ks kp kc r ih1 ih2 =>
    simp only [FoM.list, List.map_cons, List.sum_cons, FoM.wt, NdM.nd]
    omega
theorem tlT_le (f : FoM) (i : Nat) : tlT f i ≤ f.wt := by
  have h1 := sum_take_le (fun m : Nd => m.text.length) (f.list.map NdM.nd) i
  have h2 := tl_wt f
  unfold tlT ndT
  omega
set_option maxHeartbeats 4000000 in
theorem refMerge21_ok : ∀ (k : Nat) (A : List NdM) (p : Option Addr) (c : Nat), (FoM.of A).size < k → (FoM.of A).wt ≤ 1048576 → ∀ (w0 w : World) (cs : List Plot), Sep w0 w (pRow 4 p A.length c (A.flatMap NdM.cells) :: pMany (A.flatMap NdM.rows) :: cs) →
    CallsR Tryd.prog 17 #[.slice p A.length c] w fun v w' => ∃ (q : Option Addr) (cc : Nat) (L : List NdM), v = .slice q L.length cc ∧ L.map NdM.nd = (FoM.of A).fo.merge [] ∧ Sep w0 w' (pRow 4 q L.length cc (L.flatMap NdM.cells) :: pMany (L.flatMap NdM.rows) :: cs) := by
  intro k
  induction k with
  | zero => intro A p c hk; omega
  | succ k ih =>
    intro A p c hk hw w0 w cs hS0
    have hlw := FoM.len_wt (FoM.of A)
    rw [len_of] at hlw
    have hS := ((hS0.zero).push (c := pRow 4 none 0 0 []) (Frm.refl _) (Row.nil _ 4) (rb_nil _))
    clear hS0
    refine enter (l := [.slice p A.length c]) Tryd.func17 rfl Tryd.ntmps17 (by kernel_rfl) rfl ?_
    refine sgo ?_
    refine wcloop (X := Nat × Option Addr × Nat × List NdM) (fun x => [(3, .slice x.2.1 x.2.2.2.length x.2.2.1), (7, .slice p A.length c), (8, int A.length), (9, int x.1)])
      (fun x wr => x.1 ≤ A.length ∧ x.2.2.2.length ≤ x.1 ∧ (∀ m ∈ x.2.2.2, m.text.length ≤ tlT (FoM.of A) x.1) ∧ x.2.2.2.map NdM.nd = mgT (FoM.of A) x.1 ∧ Sep w0 wr (pRow 4 x.2.1 x.2.2.2.length x.2.2.1 (x.2.2.2.flatMap NdM.cells) :: pMany (x.2.2.2.flatMap NdM.rows) :: pRow 4 p A.length c (A.flatMap NdM.cells) :: pMany ((A.drop x.1).flatMap NdM.rows) :: cs))
      (fun x => A.length - x.1) (0, none, 0, []) ⟨rfl, rfl, rfl, rfl, trivial⟩ ⟨Nat.zero_le _, Nat.zero_le _, (fun m hm => by cases hm), rfl, hS⟩ ?_
    clear hS
    rintro ⟨i, q, cc, L⟩ wr ρ ⟨hil, hLi, htx, hev, hS⟩
    dsimp only at *
    refine sgo ?_
    (show WC _ _ _ _ _ _ _; first | refine WC_dec rfl (fun hc => ?_) (fun hc => ?_) | refine WC_cond rfl (fun hc => ?_) (fun hc => ?_))
    · have hlt : i < A.length := by omega
      have hx : A[i]? = some A[i] := List.getElem?_eq_getElem hlt
      have hxf : (FoM.of A).list[i]? = some A[i] := by rw [FoM.list_of]; exact hx
      have hmem : A[i] ∈ (FoM.of A).list := by rw [FoM.list_of]; exact List.getElem_mem hlt
      have hseg := fm_seg NdM.clen A hx
      have hfl := fm_len NdM.clen A
      have hps : ∃ a, p = some a := (hS.row 2 rfl).sg.some (by omega)
      have hsz := FoM.size_mem hmem
      have hsm := nd_small hw hmem
      have htl := tlT_succ hxf
      have htl2 := tlT_le (FoM.of A) (i + 1)
      have hmg := mgT_succ hxf
      rw [stepM_nd, ← hev] at hmg
      have hdr : A.drop i = A[i] :: A.drop (i + 1) := List.drop_eq_getElem_cons hlt
      rw [hdr] at hS
      generalize A[i] = m at *
      clear hc
      replace hS := Sep.unnode (hS.front 3 rfl)
      have hih := fun w' q (cs' : List Plot) h => ih m.kids.list q m.kc (by rw [FoM.of_list]; omega) (by rw [FoM.of_list]; exact hsm.kids) w0 w' cs' h
      rw [FoM.of_list] at hih
      obtain ⟨n, t, es, ap, ac, ks, kp, kc⟩ := m
      dsimp only at *
      -- one more at the end
      have hpush : ∀ (m2 : NdM) (wz : World) (b b' : Nat) (vs vs' : List Value) (p' : Option Addr) (c' : Nat), mgT (FoM.of A) (i + 1) = L.map NdM.nd ++ [m2.nd] → m2.text.length ≤ t.length → Sep w0 wz (pOwn b vs :: pRow 4 m2.kp m2.kids.len m2.kc (m2.kids.list.flatMap NdM.cells) :: pMany m2.kids.rows :: pRow 2 m2.ap m2.attrs.length m2.ac (m2.attrs.flatMap At.cells) :: pOwn b' vs' :: pRow 4 p' (L.length + 1) c' (L.flatMap NdM.cells ++ m2.cells) :: pMany (L.flatMap NdM.rows) :: pRow 4 p A.length c (A.flatMap NdM.cells) :: pMany ((A.drop (i + 1)).flatMap NdM.rows) :: cs) →
          (i + 1 ≤ A.length ∧ (L ++ [m2]).length ≤ i + 1 ∧ (∀ m ∈ L ++ [m2], m.text.length ≤ tlT (FoM.of A) (i + 1)) ∧ (L ++ [m2]).map NdM.nd = mgT (FoM.of A) (i + 1) ∧
            Sep w0 wz (pRow 4 p' (L ++ [m2]).length c' ((L ++ [m2]).flatMap NdM.cells) :: pMany ((L ++ [m2]).flatMap NdM.rows) :: pRow 4 p A.length c (A.flatMap NdM.cells) :: pMany ((A.drop (i + 1)).flatMap NdM.rows) :: cs)) := by
        intro m2 wz b b' vs vs' p' c' h1 h2 h3
        refine ⟨hlt, by simp; omega, ?_, by rw [h1, List.map_append]; rfl, Sep.putNode h3⟩
        intro m3 hm
        rcases List.mem_append.1 hm with hm | hm
        · have := htx m3 hm; omega
        · rw [List.mem_singleton.1 hm]; omega
      have hsgA : Sg wr p (A.flatMap NdM.cells) := (hS.row 6 rfl).sg
      refine sgo ?_
      rw [hseg]
      clear hsgA
      refine salloc hS fun b5 w5 hS => ?_
      refine sgo ?_
      refine ssta (vs := [str n, str t, .slice ap es.length ac, .slice kp ks.len kc]) hS 0 fun w6 hS => ?_
      replace hS : Sep w0 w6 (pOwn b5 [str n, str t, .slice ap es.length ac, .slice kp ks.len kc] :: pRow 2 ap es.length ac (es.flatMap At.cells) :: pRow 4 kp ks.len kc (ks.list.flatMap NdM.cells) :: pMany ks.rows :: pMany ((A.drop (i + 1)).flatMap NdM.rows) :: pRow 4 q L.length cc (L.flatMap NdM.cells) :: pMany (L.flatMap NdM.rows) :: pRow 4 p A.length c (A.flatMap NdM.cells) :: cs) := hS
      refine sgo ?_
      by_cases hn : n = []
      · subst hn
        refine wcno ?_ (ht := by simp)
        rw [if_pos rfl] at hmg
        refine sgo ?_
        by_cases ht0 : t = []
        · rw [putT, if_pos ht0] at hmg
          refine wcyes ?_ (ht := by simp [ht0])
          refine sgo ?_
          exact ⟨(i + 1, q, cc, L), ⟨rfl, rfl, rfl, rfl, trivial⟩, ⟨hlt, (by (try dsimp only); omega), (fun m hm => by have := htx m hm; dsimp only; omega), hmg.symm, hS.sel 8 [5, 6, 7, 4]⟩, (by (try dsimp only); omega)⟩
        · refine wcno ?_ (ht := by simp [ht0])
          refine sgo ?_
          by_cases hL : L = []
          · subst hL
            replace hmg : mgT (FoM.of A) (i + 1) = ([] : List NdM).map NdM.nd ++ [⟨[], t, es, ks.fo⟩] := by rw [hmg, List.map_nil, putT_nil, if_neg ht0]; rfl
            refine wlskipg (.pointer none) ?_ (hgt := by simp)
            refine wlskipg (.pointer none) ?_ (hgt := by simp)
            refine wlskipg (str []) ?_ (hgt := by simp)
            refine wlskipg (.bool false) ?_ (hgt := by simp)
            refine sgo ?_
            refine sb1a (vs := [str [], str t, .slice ap es.length ac, .slice kp ks.len kc]) hS fun b12 w12 hS => ?_
            refine sgo ?_
            refine sapp hS 6 (hS.own 0 rfl).sg (fun q4 c4 w13 hS => ?_) (h1 := by simp [Value.oneCell'])
            refine sgo ?_
            refine ⟨(i + 1, q4, c4, [] ++ [⟨[], t, es, ap, ac, ks, kp, kc⟩]), ⟨rfl, rfl, rfl, rfl, trivial⟩, hpush ⟨[], t, es, ap, ac, ks, kp, kc⟩ _ b12 b5 _ _ q4 c4 hmg (Nat.le_refl _) (hS.sel 9 [0, 3, 4, 2, 1, 6, 7, 8, 5]), (by (try dsimp only); omega)⟩
          · have hpos : 0 < L.length := List.length_pos_iff.2 hL
            have hx0 : L[L.length - 1]? = some (L[L.length - 1]'(by omega)) := List.getElem?_eq_getElem (by omega)
            have hm0 : L[L.length - 1]'(by omega) ∈ L := List.getElem_mem _
            obtain ⟨hg0, hg1, -, -⟩ := nd_get hx0
            have hsp : L = L.take (L.length - 1) ++ [L[L.length - 1]'(by omega)] := by
              have h := List.take_append_drop (L.length - 1) L
              rw [List.drop_eq_getElem_cons (by omega)] at h
              have h2 : L.drop (L.length - 1 + 1) = [] := List.drop_eq_nil_of_le (by omega)
              rw [h2] at h
              exact h.symm
            have hmt := htx _ hm0
            have hfl2 := fm_len NdM.clen L
            have hqs : ∃ a, q = some a := (hS.row 5 rfl).sg.some (by omega)
            generalize L[L.length - 1]'(by omega) = m0 at *
            have hesp : L.map NdM.nd = (L.take (L.length - 1)).map NdM.nd ++ [m0.nd] := by have h := congrArg (List.map NdM.nd) hsp; rw [List.map_append] at h; exact h
            rw [hesp, putT_snoc, if_neg ht0] at hmg
            have e9 : ((L.length : Int) - 1).toNat = L.length - 1 := by omega
            rw [← e9] at hg0 hg1
            have hsgq : Sg w6 q (L.flatMap NdM.cells) := (hS.row 5 rfl).sg
            have hgd : (true && (decide ((0 : Int) ≤ (L.length : Int) - 1) == true)) = true := by simp; omega
            refine wlgt (y_idxI (n := L.length) (i := (L.length : Int) - 1) (evG hgd) (evG hgd) ⟨by omega, by omega⟩ hqs) ?_ (hgt := hgd)
            refine wlgt (y_field rfl hqs (by decide)) ?_ (hgt := hgd)
            refine wlgt (y_load rfl hsgq hg0) ?_ (hgt := hgd)
            refine wlgt (y_seql rfl rfl) ?_ (hgt := hgd)
            refine sgo ?_
            by_cases hn0 : m0.name = []
            · rw [if_pos (show m0.nd.name = [] from hn0)] at hmg
              refine wcyes ?_ (ht := by simp [pkb, hn0]; omega)
              (first | refine WC_seq ?_ | skip)
              refine wcdrawt 10 ?_
              refine qgo ?_
              refine QL_nil ?_
              intro w8 hf8
              replace hS := hS.grow hf8
              refine srst (v := str (m0.text ++ t)) (j := ((L.length : Int) - 1).toNat * 4 + 1) hS 5 (fun w9 hS => ?_) (hk := by rw [hfl2]; omega)
              have hll : (L.take (L.length - 1)).length = L.length - 1 := by rw [List.length_take]; omega
              have hft := flat_text (L.take (L.length - 1)) m0 (m0.text ++ t)
              rw [← hsp, hll] at hft
              rw [e9] at hS
              have hl9 : (L.take (L.length - 1) ++ [{ m0 with text := m0.text ++ t }]).length = L.length := by rw [List.length_append, hll]; simp; omega
              have hr9 : (L.take (L.length - 1) ++ [{ m0 with text := m0.text ++ t }]).flatMap NdM.rows = L.flatMap NdM.rows := by
                conv => rhs; rw [hsp]
                rw [List.flatMap_append, List.flatMap_append]; rfl
              replace hS : Sep w0 w9 (pRow 4 q L.length cc ((L.take (L.length - 1) ++ [{ m0 with text := m0.text ++ t }]).flatMap NdM.cells) :: pMany (L.flatMap NdM.rows) :: pRow 4 p A.length c (A.flatMap NdM.cells) :: pMany ((A.drop (i + 1)).flatMap NdM.rows) :: cs) := by rw [← hft]; exact hS.sel 8 [5, 6, 7, 4]
              refine sgo ?_
              refine ⟨(i + 1, q, cc, L.take (L.length - 1) ++ [{ m0 with text := m0.text ++ t }]), ⟨?_, rfl, rfl, rfl, trivial⟩, ⟨hlt, Nat.le_trans (Nat.le_of_eq hl9) (by omega), ?_, ?_, ?_⟩, (by (try dsimp only); omega)⟩
              · dsimp only; rw [hl9]; rfl
              · intro m2 hm
                rcases List.mem_append.1 hm with hm | hm
                · have := htx m2 (List.mem_of_mem_take hm); dsimp only; omega
                · rw [List.mem_singleton.1 hm]; dsimp only; rw [List.length_append]; omega
              · dsimp only; rw [hmg, List.map_append]; rfl
              · dsimp only; rw [hl9, hr9]; exact hS
            · rw [if_neg (show ¬ m0.nd.name = [] from hn0), ← hesp] at hmg
              refine wcno ?_ (ht := by simp [pkb, hn0])
              refine sgo ?_
              refine sb1a (vs := [str [], str t, .slice ap es.length ac, .slice kp ks.len kc]) hS fun b12 w12 hS => ?_
              refine sgo ?_
              refine sapp hS 6 (hS.own 0 rfl).sg (fun q4 c4 w13 hS => ?_) (h1 := by simp [Value.oneCell'])
              refine sgo ?_
              refine ⟨(i + 1, q4, c4, L ++ [⟨[], t, es, ap, ac, ks, kp, kc⟩]), ⟨by dsimp only; rw [List.length_append]; rfl, rfl, rfl, rfl, trivial⟩, hpush ⟨[], t, es, ap, ac, ks, kp, kc⟩ _ b12 b5 _ _ q4 c4 hmg (Nat.le_refl _) (hS.sel 9 [0, 3, 4, 2, 1, 6, 7, 8, 5]), (by (try dsimp only); omega)⟩
      · refine wcyes ?_ (ht := by simp [hn])
        rw [if_neg hn] at hmg
        refine sgo ?_
        have hS2 := hS.sel 8 [2, 3, 0, 1, 4, 5, 6, 7]
        simp only [List.filterMap_cons, List.filterMap_nil, List.getElem?_cons_succ, List.getElem?_cons_zero, List.drop_succ_cons, List.drop_zero, List.cons_append, List.nil_append] at hS2
        rw [rows_eq ks] at hS2
        refine wlcall (hih _ kp _ hS2) ?_
        clear hS hS2
        rintro _ w7 ⟨q3, c3, K, rfl, hK, hS⟩
        refine sgo ?_
        refine sst_slice hS 2 fun w8 hS => ?_
        replace hS : Sep w0 w8 (pRow 4 q3 K.length c3 (K.flatMap NdM.cells) :: pMany (K.flatMap NdM.rows) :: pOwn b5 [str n, str t, .slice ap es.length ac, .slice q3 K.length c3] :: pRow 2 ap es.length ac (es.flatMap At.cells) :: pMany ((A.drop (i + 1)).flatMap NdM.rows) :: pRow 4 q L.length cc (L.flatMap NdM.cells) :: pMany (L.flatMap NdM.rows) :: pRow 4 p A.length c (A.flatMap NdM.cells) :: cs) := hS
        refine sgo ?_
        refine sb1a (vs := [str n, str t, .slice ap es.length ac, .slice q3 K.length c3]) hS fun b12 w12 hS => ?_
        refine sgo ?_
        refine sapp hS 6 (hS.own 0 rfl).sg (fun q4 c4 w13 hS => ?_) (h1 := by simp [Value.oneCell'])
        refine sgo ?_
        refine ⟨(i + 1, q4, c4, L ++ [⟨n, t, es, ap, ac, .of K, q3, c3⟩]), ⟨by dsimp only; rw [List.length_append]; rfl, rfl, rfl, rfl, trivial⟩, hpush ⟨n, t, es, ap, ac, .of K, q3, c3⟩ _ b12 b5 _ _ q4 c4 (by rw [hmg]; simp only [NdM.nd, fo_of, hK]) (Nat.le_refl _) (by dsimp only [NdM.cells]; rw [len_of, FoM.list_of, rows_of]; exact hS.sel 9 [0, 1, 2, 4, 3, 6, 7, 8, 5]), (by (try dsimp only); omega)⟩
    · obtain rfl : i = A.length := by omega
      have he := mgT_all (FoM.of A)
      rw [len_of] at he
      refine sgo ?_
      (first | refine fp1 (.inl rfl) rfl rfl ?_ | refine fp2 (.inl rfl) rfl rfl rfl ?_ | refine fp3 (.inl rfl) rfl rfl rfl rfl ?_ | refine fp0 (.inr rfl) rfl ?_ | refine fp0 (.inl rfl) rfl ?_ | refine fp1 (.inr rfl) rfl rfl ?_)
      exact ⟨q, cc, L, rfl, by rw [hev, he], hS.sub (List.Sublist.cons_cons _ (List.Sublist.cons_cons _ (List.Sublist.trans (List.sublist_cons_self _ _) (List.sublist_cons_self _ _))))⟩
theorem flat_name (l1 l2 : List NdM) (m : NdM) (v : List UInt8) : ((l1 ++ m :: l2).flatMap NdM.cells).take (l1.length * 4) ++ [str v] ++ ((l1 ++ m :: l2).flatMap NdM.cells).drop (l1.length * 4 + 1) = (l1 ++ { m with name := v } :: l2).flatMap NdM.cells := by
  have hF := fm_len NdM.clen l1
  rw [List.flatMap_append, List.flatMap_append, List.flatMap_cons, List.flatMap_cons]
  generalize l1.flatMap NdM.cells = F at *
  rw [← hF, List.take_append, List.drop_append, List.take_of_length_le (Nat.le_refl _), List.drop_eq_nil_of_le (by omega)]
  rw [show F.length - F.length = 0 by omega, show F.length + 1 - F.length = 1 by omega]
  simp [NdM.cells]
theorem flat_text2 (l1 l2 : List NdM) (m : NdM) (v : List UInt8) : ((l1 ++ m :: l2).flatMap NdM.cells).take (l1.length * 4 + 1) ++ [str v] ++ ((l1 ++ m :: l2).flatMap NdM.cells).drop (l1.length * 4 + 1 + 1) = (l1 ++ { m with text := v } :: l2).flatMap NdM.cells := by
  have hF := fm_len NdM.clen l1
  rw [List.flatMap_append, List.flatMap_append, List.flatMap_cons, List.flatMap_cons]
  generalize l1.flatMap NdM.cells = F at *
  rw [← hF, List.take_append, List.drop_append, List.take_of_length_le (by omega), List.drop_eq_nil_of_le (by omega)]
  rw [show F.length + 1 - F.length = 1 by omega, show F.length + 1 + 1 - F.length = 2 by omega]
  simp [NdM.cells]
set_option maxHeartbeats 4000000 in
/-- all that can be written over -/
theorem spoil21_ok : ∀ (k : Nat) (A : List NdM) (p : Option Addr) (c : Nat), (FoM.of A).size < k → (FoM.of A).wt ≤ 1048576 → ∀ (w0 w : World) (cs : List Plot), Sep w0 w (pRow 4 p A.length c (A.flatMap NdM.cells) :: pMany (A.flatMap NdM.rows) :: cs) →
    CallsR Tryd.prog 18 #[.slice p A.length c] w fun _ w' => Sep w0 w' cs := by
  intro k
  induction k with
  | zero => intro A p c hk; omega
  | succ k ih =>
    intro A p c hk hw w0 w cs hS
    have hlw := FoM.len_wt (FoM.of A)
    rw [len_of] at hlw
    refine enter (l := [.slice p A.length c]) Tryd.func18 rfl Tryd.ntmps18 (by kernel_rfl) rfl ?_
    refine sgo ?_
    refine wcloop (X := Nat × List NdM) (fun x => [(0, .slice p A.length c), (4, .slice p A.length c), (5, int A.length), (6, int x.1)])
      (fun x wr => x.1 ≤ A.length ∧ x.2.length = A.length ∧ x.2.drop x.1 = A.drop x.1 ∧ Sep w0 wr (pRow 4 p A.length c (x.2.flatMap NdM.cells) :: pMany ((A.drop x.1).flatMap NdM.rows) :: cs))
      (fun x => A.length - x.1) (0, A) ⟨rfl, rfl, rfl, rfl, trivial⟩ ⟨Nat.zero_le _, rfl, rfl, hS⟩ ?_
    clear hS
    rintro ⟨i, L⟩ wr ρ ⟨hil, hLl, hdL, hS⟩
    dsimp only at *
    refine sgo ?_
    (show WC _ _ _ _ _ _ _; first | refine WC_dec rfl (fun hc => ?_) (fun hc => ?_) | refine WC_cond rfl (fun hc => ?_) (fun hc => ?_))
    · have hlt : i < A.length := by omega
      have hx : A[i]? = some A[i] := List.getElem?_eq_getElem hlt
      have hmem : A[i] ∈ (FoM.of A).list := by rw [FoM.list_of]; exact List.getElem_mem hlt
      have hxL : L[i]? = some A[i] := by
        have h1 := congrArg (fun l : List NdM => l[0]?) hdL
        simp only [List.getElem?_drop, Nat.add_zero] at h1
        rw [h1, hx]
      have hfl := fm_len NdM.clen L
      have hps : ∃ a, p = some a := (hS.row 0 rfl).sg.some (by omega)
      have hsz := FoM.size_mem hmem
      have hsm := nd_small hw hmem
      have hdr : A.drop i = A[i] :: A.drop (i + 1) := List.drop_eq_getElem_cons hlt
      rw [hdr] at hS
      generalize A[i] = m at *
      clear hc
      replace hS := Sep.unnode (hS.front 1 rfl)
      have hih := fun w' q (cs' : List Plot) h => ih m.kids.list q m.kc (by rw [FoM.of_list]; omega) (by rw [FoM.of_list]; exact hsm.kids) w0 w' cs' h
      have hes := hsm.attrs
      obtain ⟨l1, l2, hL2, hl1⟩ : ∃ l1 l2, L = l1 ++ m :: l2 ∧ l1.length = i := by
        obtain ⟨h1, h2⟩ := List.getElem?_eq_some_iff.1 hxL
        exact ⟨L.take i, L.drop (i + 1), by rw [← h2, List.getElem_cons_drop, List.take_append_drop], by rw [List.length_take]; omega⟩
      obtain ⟨n, t, es, ap, ac, ks, kp, kc⟩ := m
      subst hL2
      have hdl2 : l2 = A.drop (i + 1) := by
        rw [List.drop_append, List.drop_eq_nil_of_le (by omega), show i - l1.length = 0 by omega, hdr] at hdL
        simpa using hdL
      have hl1' : (l1.length : Int) = (i : Int) := by omega
      subst hl1
      dsimp only at *
      replace hS : Sep w0 wr (pRow 4 p A.length c ((l1 ++ ⟨n, t, es, ap, ac, ks, kp, kc⟩ :: l2).flatMap NdM.cells) :: pRow 2 ap es.length ac (es.flatMap At.cells) :: pRow 4 kp ks.len kc (ks.list.flatMap NdM.cells) :: pMany ks.rows :: pMany ((A.drop (l1.length + 1)).flatMap NdM.rows) :: cs) := hS.sel 5 [4, 0, 1, 2, 3]
      refine sgo ?_
      refine srst (v := str [63]) (j := l1.length * 4) hS 0 (fun w2 hS => ?_) (hk := by rw [hfl, hLl]; omega)
      replace hS : Sep w0 w2 (pRow 4 p A.length c ((l1 ++ ⟨[63], t, es, ap, ac, ks, kp, kc⟩ :: l2).flatMap NdM.cells) :: pRow 2 ap es.length ac (es.flatMap At.cells) :: pRow 4 kp ks.len kc (ks.list.flatMap NdM.cells) :: pMany ks.rows :: pMany ((A.drop (l1.length + 1)).flatMap NdM.rows) :: cs) := by
        have := flat_name l1 l2 ⟨n, t, es, ap, ac, ks, kp, kc⟩ [63]
        rw [← this]; exact hS
      have hfl2 := fm_len NdM.clen (l1 ++ ⟨[63], t, es, ap, ac, ks, kp, kc⟩ :: l2)
      have hLl2 : (l1 ++ (⟨[63], t, es, ap, ac, ks, kp, kc⟩ : NdM) :: l2).length = A.length := by rw [← hLl]; simp
      refine sgo ?_
      refine srst (v := str [63]) (j := l1.length * 4 + 1) hS 0 (fun w3 hS => ?_) (hk := by rw [hfl2, hLl2]; omega)
      replace hS : Sep w0 w3 (pRow 4 p A.length c ((l1 ++ ⟨[63], [63], es, ap, ac, ks, kp, kc⟩ :: l2).flatMap NdM.cells) :: pRow 2 ap es.length ac (es.flatMap At.cells) :: pRow 4 kp ks.len kc (ks.list.flatMap NdM.cells) :: pMany ks.rows :: pMany ((A.drop (l1.length + 1)).flatMap NdM.rows) :: cs) := by
        have := flat_text2 l1 l2 ⟨[63], t, es, ap, ac, ks, kp, kc⟩ [63]
        rw [← this]; exact hS
      clear hfl2 hLl2 hfl
      obtain ⟨L3, hL3⟩ : ∃ L3, L3 = l1 ++ (⟨[63], [63], es, ap, ac, ks, kp, kc⟩ : NdM) :: l2 := ⟨_, rfl⟩
      have hx3 : L3[l1.length]? = some ⟨[63], [63], es, ap, ac, ks, kp, kc⟩ := by rw [hL3]; simp
      have hLl3 : L3.length = A.length := by rw [← hLl, hL3]; simp
      have hdr3 : L3.drop (l1.length + 1) = A.drop (l1.length + 1) := by rw [hL3, ← hdl2]; simp
      rw [← hL3] at hS
      obtain ⟨g0, g1, g2, g3⟩ := nd_get hx3
      dsimp only at g0 g1 g2 g3
      have hfl3 := fm_len NdM.clen L3
      clear hL3 hxL hdL hLl
      have hsg3 : Sg w3 p (L3.flatMap NdM.cells) := (hS.row 0 rfl).sg
      refine sgo ?_
      refine wcloop (X := Nat × List Value) (fun x => [(0, .slice p A.length c), (2, int l1.length), (4, .slice p A.length c), (5, int A.length), (6, int l1.length), (22, int es.length), (23, int x.1)])
        (fun x wr => x.1 ≤ es.length ∧ Sep w0 wr (pRow 4 p A.length c (L3.flatMap NdM.cells) :: pRow 2 ap es.length ac x.2 :: pRow 4 kp ks.len kc (ks.list.flatMap NdM.cells) :: pMany ks.rows :: pMany ((A.drop (l1.length + 1)).flatMap NdM.rows) :: cs))
        (fun x => es.length - x.1) (0, es.flatMap At.cells) ⟨rfl, rfl, rfl, rfl, rfl, rfl, rfl, trivial⟩ ⟨Nat.zero_le _, hS⟩ ?_
      clear hS hsg3
      rintro ⟨j, xs⟩ wr2 ρ4 ⟨hjl, hS⟩
      dsimp only at *
      have hsg3 : Sg wr2 p (L3.flatMap NdM.cells) := (hS.row 0 rfl).sg
      refine sgo ?_
      (show WC _ _ _ _ _ _ _; first | refine WC_dec rfl (fun hc => ?_) (fun hc => ?_) | refine WC_cond rfl (fun hc => ?_) (fun hc => ?_))
      · have hlt2 : j < es.length := by omega
        have hxl : xs.length = es.length * 2 := (hS.row 1 rfl).len
        have hqp : ∃ a, ap = some a := (hS.row 1 rfl).sg.some (by omega)
        clear hc
        refine sgo ?_
        refine srst (v := str [63]) (j := j * 2) hS 1 (fun w6 hS => ?_) (hk := by omega)
        refine sgo ?_
        exact ⟨(j + 1, _), ⟨rfl, rfl, rfl, rfl, rfl, rfl, rfl, trivial⟩, ⟨hlt2, hS⟩, (by (try dsimp only); omega)⟩
      · clear hc
        have hS2 := hS.sel 5 [2, 3, 0, 4]
        simp only [List.filterMap_cons, List.filterMap_nil, List.getElem?_cons_succ, List.getElem?_cons_zero, List.drop_succ_cons, List.drop_zero, List.cons_append, List.nil_append] at hS2
        rw [rows_eq ks] at hS2
        refine sgo ?_
        refine wlcall (hih _ kp _ hS2) ?_
        rintro _ w7 hS
        refine sgo ?_
        exact ⟨(l1.length + 1, L3), ⟨rfl, rfl, rfl, rfl, trivial⟩, ⟨hlt, hLl3, hdr3, hS⟩, (by (try dsimp only); omega)⟩
    · obtain rfl : i = A.length := by omega
      refine sgo ?_
      (first | refine fp1 (.inl rfl) rfl rfl ?_ | refine fp2 (.inl rfl) rfl rfl rfl ?_ | refine fp3 (.inl rfl) rfl rfl rfl rfl ?_ | refine fp0 (.inr rfl) rfl ?_ | refine fp0 (.inl rfl) rfl ?_ | refine fp1 (.inr rfl) rfl rfl ?_)
      exact hS.tail.tail
end Go.Proofs.YtcdogceabkpnmaaDoor

/-
  Chapter 21: dom.Merge.
-/
set_option linter.unusedSimpArgs false
set_option linter.unusedVariables false
set_option linter.unnecessarySimpa false
namespace Go.Proofs.YtcdogceabkpnmaaDoor
open Go Go.Sv Go.RowKit
set_option maxHeartbeats 8000000 in
theorem domMerge_ok : ∀ (k : Nat) (f : FoM) (p : Option Addr) (c : Nat), f.size < k → f.wt ≤ 1048576 → ∀ (w0 w : World) (cs : List Plot), Sep w0 w cs → Tre w p f →
    CallsR Tryd.prog 16 #[.slice p f.len c] w fun v w' => ∃ (q : Option Addr) (cc : Nat) (L : List NdM), v = .slice q L.length cc ∧ L.map NdM.nd = f.fo.merge [] ∧ Frm w w' ∧ Sep w0 w' (pRow 4 q L.length cc (L.flatMap NdM.cells) :: pMany (L.flatMap NdM.rows) :: cs) := by
  intro k
  induction k with
  | zero => intro f p c hk; omega
  | succ k ih =>
    intro f p c hk hw w0 w cs hS0 hT
    have hlw := FoM.len_wt f
    have hS := ((Sep.start w).zero).push (c := pRow 4 none 0 0 []) (Frm.refl _) (Row.nil _ 4) (rb_nil _)
    refine enter (l := [.slice p f.len c]) Tryd.func16 rfl Tryd.ntmps16 (by kernel_rfl) rfl ?_
    refine sgo ?_
    refine wcloop (X := Nat × Option Addr × Nat × List NdM) (fun x => [(3, .slice x.2.1 x.2.2.2.length x.2.2.1), (7, .slice p f.len c), (8, int f.len), (9, int x.1)])
      (fun x wr => x.1 ≤ f.len ∧ x.2.2.2.length ≤ x.1 ∧ (∀ m ∈ x.2.2.2, m.text.length ≤ tlT f x.1) ∧ x.2.2.2.map NdM.nd = mgT f x.1 ∧ Sep w wr [pRow 4 x.2.1 x.2.2.2.length x.2.2.1 (x.2.2.2.flatMap NdM.cells), pMany (x.2.2.2.flatMap NdM.rows)])
      (fun x => f.len - x.1) (0, none, 0, []) ⟨rfl, rfl, rfl, rfl, trivial⟩ ⟨Nat.zero_le _, Nat.zero_le _, (fun m hm => by cases hm), rfl, hS⟩ ?_
    clear hS
    rintro ⟨i, q, cc, L⟩ wr ρ ⟨hil, hLi, htx, hev, hS⟩
    dsimp only at *
    refine sgo ?_
    (show WC _ _ _ _ _ _ _; first | refine WC_dec rfl (fun hc => ?_) (fun hc => ?_) | refine WC_cond rfl (fun hc => ?_) (fun hc => ?_))
    · have hlt : i < f.len := by omega
      have hTw := hT.frm hS.frm
      have hIm := hTw.im
      obtain ⟨m, hx, hm, hseg, hfl, hps, hat, hkT⟩ := tre_at hT hlt
      have hsz := FoM.size_mem hm
      have hsm := nd_small hw hm
      have htl := tlT_succ hx
      have htl2 := tlT_le f (i + 1)
      have hmg := mgT_succ hx
      rw [stepM_nd, ← hev] at hmg
      have hes := hsm.attrs
      have hl1 := fm_len At.len m.attrs
      have hih := fun w' (cs' : List Plot) (h : Sep w w' cs') => ih m.kids m.kp m.kc (by omega) hsm.kids w w' cs' h (hkT.frm h.frm)
      have how := fun w' (cs' : List Plot) (h : Sep w w' cs') => own21_ok (m.kids.size + 1) m.kids m.kp m.kc (Nat.lt_succ_self _) hsm.kids w w' cs' h (hkT.frm h.frm)
      obtain ⟨n, t, es, ap, ac, ks, kp, kc⟩ := m
      dsimp only at hat hsz htl hmg hes hl1 hih how
      clear hc
      -- one more at the end
      have hpush : ∀ (m2 : NdM) (wz : World) (b b' : Nat) (vs vs' : List Value) (p' : Option Addr) (c' : Nat), mgT f (i + 1) = L.map NdM.nd ++ [m2.nd] → m2.text.length ≤ t.length → Sep w wz [pOwn b vs, pRow 4 m2.kp m2.kids.len m2.kc (m2.kids.list.flatMap NdM.cells), pMany m2.kids.rows, pRow 2 m2.ap m2.attrs.length m2.ac (m2.attrs.flatMap At.cells), pOwn b' vs', pRow 4 p' (L.length + 1) c' (L.flatMap NdM.cells ++ m2.cells), pMany (L.flatMap NdM.rows)] →
          (i + 1 ≤ f.len ∧ (L ++ [m2]).length ≤ i + 1 ∧ (∀ m ∈ L ++ [m2], m.text.length ≤ tlT f (i + 1)) ∧ (L ++ [m2]).map NdM.nd = mgT f (i + 1) ∧
            Sep w wz [pRow 4 p' (L ++ [m2]).length c' ((L ++ [m2]).flatMap NdM.cells), pMany ((L ++ [m2]).flatMap NdM.rows)]) := by
        intro m2 wz b b' vs vs' p' c' h1 h2 h3
        refine ⟨hlt, by simp; omega, ?_, by rw [h1, List.map_append]; rfl, Sep.putNode h3⟩
        intro m3 hm
        rcases List.mem_append.1 hm with hm | hm
        · have := htx m3 hm; omega
        · rw [List.mem_singleton.1 hm]; omega
      refine sgo ?_
      rw [hseg]
      refine salloc hS fun b5 w5 hS => ?_
      refine sgo ?_
      refine ssta (vs := [str n, str t, .slice ap es.length ac, .slice kp ks.len kc]) hS 0 fun w6 hS => ?_
      replace hS : Sep w w6 [pOwn b5 [str n, str t, .slice ap es.length ac, .slice kp ks.len kc], pRow 4 q L.length cc (L.flatMap NdM.cells), pMany (L.flatMap NdM.rows)] := hS
      refine sgo ?_
      refine wlbuild (cells := [str n, str t, .slice ap es.length ac, .slice kp ks.len kc]) ?_
      refine wlpure (oneText_ok n (str t) (.slice ap es.length ac) (.slice kp ks.len kc) _) fun w7 hf7 => ?_
      replace hS := hS.grow hf7
      refine sgo ?_
      refine wcutt (X := Unit) (fun _ => [(3, .slice q L.length cc), (5, ptrAt (pb b5) 0), (7, .slice p f.len c), (8, int f.len), (9, int i)])
        (fun _ w' => mgT f (i + 1) = L.map NdM.nd ++ [if n = [] then ⟨[], t, es, ks.fo⟩ else ⟨n, t, es, .of (ks.fo.merge [])⟩] ∧ Sep w w' [pOwn b5 [str n, str t, .slice ap es.length ac, .slice kp ks.len kc], pRow 4 q L.length cc (L.flatMap NdM.cells), pMany (L.flatMap NdM.rows)]) ?_ ?_
      · by_cases hn : n = []
        · subst hn
          refine wcyes ?_ (ht := by simp)
          rw [if_pos rfl] at hmg
          refine sgo ?_
          by_cases ht0 : t = []
          · rw [putT, if_pos ht0] at hmg
            refine wcyes ?_ (ht := by simp [ht0])
            refine sgo ?_
            exact ⟨(i + 1, q, cc, L), ⟨rfl, rfl, rfl, rfl, trivial⟩, ⟨hlt, (by (try dsimp only); omega), (fun m hm => by have := htx m hm; dsimp only; omega), hmg.symm, hS.tail⟩, (by (try dsimp only); omega)⟩
          · refine wcno ?_ (ht := by simp [ht0])
            refine sgo ?_
            by_cases hL : L = []
            · subst hL
              replace hmg : mgT f (i + 1) = ([] : List NdM).map NdM.nd ++ [⟨[], t, es, ks.fo⟩] := by rw [hmg, List.map_nil, putT_nil, if_neg ht0]; rfl
              refine wlskipg (.pointer none) ?_ (hgt := by simp)
              refine wlskipg (.nilIface) ?_ (hgt := by simp)
              refine wlskipg (.nilIface) ?_ (hgt := by simp)
              refine wlskipg (.bool false) ?_ (hgt := by simp)
              refine sgo ?_
              exact ⟨(), ⟨rfl, rfl, rfl, rfl, rfl, trivial⟩, by rw [hmg, if_pos rfl], hS⟩
            · have hpos : 0 < L.length := List.length_pos_iff.2 hL
              have hx0 : L[L.length - 1]? = some (L[L.length - 1]'(by omega)) := List.getElem?_eq_getElem (by omega)
              have hm0 : L[L.length - 1]'(by omega) ∈ L := List.getElem_mem _
              have hsg0 := fm_seg NdM.clen L hx0
              obtain ⟨hg0, hg1, -, -⟩ := nd_get hx0
              have hsp : L = L.take (L.length - 1) ++ [L[L.length - 1]'(by omega)] := by
                have h := List.take_append_drop (L.length - 1) L
                rw [List.drop_eq_getElem_cons (by omega)] at h
                have h2 : L.drop (L.length - 1 + 1) = [] := List.drop_eq_nil_of_le (by omega)
                rw [h2] at h
                exact h.symm
              have hmt := htx _ hm0
              have hfl2 := fm_len NdM.clen L
              have hqs : ∃ a, q = some a := (hS.row 1 rfl).sg.some (by omega)
              generalize L[L.length - 1]'(by omega) = m0 at *
              have hesp : L.map NdM.nd = (L.take (L.length - 1)).map NdM.nd ++ [m0.nd] := by have h := congrArg (List.map NdM.nd) hsp; rw [List.map_append] at h; exact h
              rw [hesp, putT_snoc, if_neg ht0] at hmg
              have e9 : ((L.length : Int) - 1).toNat = L.length - 1 := by omega
              rw [← e9] at hg0 hg1 hsg0
              have hsgq : Sg w7 q (L.flatMap NdM.cells) := (hS.row 1 rfl).sg
              have hgd : (true && (decide ((0 : Int) ≤ (L.length : Int) - 1) == true)) = true := by simp; omega
              refine wlgt (y_idxI (n := L.length) (i := (L.length : Int) - 1) (evG hgd) (evG hgd) ⟨by omega, by omega⟩ hqs) ?_ (hgt := hgd)
              refine wlgt (y_loada rfl hsgq (by rw [hfl2]; omega) hqs) ?_ (hgt := hgd)
              rw [hsg0]
              refine wlgt (y_build (cells := m0.cells) (by rw [bm1 (v := .agg ⟨m0.cells⟩) rfl]; rfl)) ?_ (hgt := hgd)
              refine wlcallgp (vals := [.agg ⟨m0.cells⟩]) (fun _ => oneText_ok m0.name (str m0.text) (.slice m0.ap m0.attrs.length m0.ac) (.slice m0.kp m0.kids.len m0.kc) _) fun w8 hf8 => ?_
              replace hS := hS.grow hf8
              refine sgo ?_
              by_cases hn0 : m0.name = []
              · rw [if_pos (show m0.nd.name = [] from hn0)] at hmg
                refine wcyes ?_ (ht := by simp [pkb, hn0]; omega)
                (first | refine WC_seq ?_ | skip)
                refine wcdrawt 10 ?_
                refine qgo ?_
                refine QL_nil ?_
                intro w9 hf9
                replace hS := hS.grow hf9
                refine srst (v := str (m0.text ++ t)) (j := ((L.length : Int) - 1).toNat * 4 + 1) hS 1 (fun w9 hS => ?_) (hk := by rw [hfl2]; omega)
                have hll : (L.take (L.length - 1)).length = L.length - 1 := by rw [List.length_take]; omega
                have hft := flat_text (L.take (L.length - 1)) m0 (m0.text ++ t)
                rw [← hsp, hll] at hft
                rw [e9] at hS
                have hl9 : (L.take (L.length - 1) ++ [{ m0 with text := m0.text ++ t }]).length = L.length := by rw [List.length_append, hll]; simp; omega
                have hr9 : (L.take (L.length - 1) ++ [{ m0 with text := m0.text ++ t }]).flatMap NdM.rows = L.flatMap NdM.rows := by
                  conv => rhs; rw [hsp]
                  rw [List.flatMap_append, List.flatMap_append]; rfl
                replace hS : Sep w w9 [pRow 4 q L.length cc ((L.take (L.length - 1) ++ [{ m0 with text := m0.text ++ t }]).flatMap NdM.cells), pMany (L.flatMap NdM.rows)] := by rw [← hft]; exact hS.sel 3 [1, 2]
                refine sgo ?_
                refine ⟨(i + 1, q, cc, L.take (L.length - 1) ++ [{ m0 with text := m0.text ++ t }]), ⟨?_, rfl, rfl, rfl, trivial⟩, ⟨hlt, Nat.le_trans (Nat.le_of_eq hl9) (by omega), ?_, ?_, ?_⟩, (by (try dsimp only); omega)⟩
                · dsimp only; rw [hl9]; rfl
                · intro m2 hm
                  rcases List.mem_append.1 hm with hm | hm
                  · have := htx m2 (List.mem_of_mem_take hm); dsimp only; omega
                  · rw [List.mem_singleton.1 hm]; dsimp only; rw [List.length_append]; omega
                · dsimp only; rw [hmg, List.map_append]; rfl
                · dsimp only; rw [hl9, hr9]; exact hS
              · rw [if_neg (show ¬ m0.nd.name = [] from hn0), ← hesp] at hmg
                refine wcno ?_ (ht := by simp [pkb, hn0])
                refine sgo ?_
                exact ⟨(), ⟨rfl, rfl, rfl, rfl, rfl, trivial⟩, by rw [hmg, if_pos rfl], hS⟩
        · refine wcno ?_ (ht := by simp [hn])
          rw [if_neg hn] at hmg
          refine sgo ?_
          exact ⟨(), ⟨rfl, rfl, rfl, rfl, rfl, trivial⟩, by rw [hmg, if_neg hn], hS⟩
      · clear hS hmg
        rintro _ w8 ρ2 ⟨hmg, hS⟩
        refine sgo ?_
        refine sapp0 hS (hat.sep hS).sg (fun q2 c2 w10 hS => ?_) (hl := by omega) (h1 := att_one es)
        refine sgo ?_
        refine sst_slice hS 1 fun w11 hS => ?_
        replace hS : Sep w w11 [pRow 2 q2 es.length c2 (es.flatMap At.cells), pOwn b5 [str n, str t, .slice q2 es.length c2, .slice kp ks.len kc], pRow 4 q L.length cc (L.flatMap NdM.cells), pMany (L.flatMap NdM.rows)] := hS
        refine sgo ?_
        refine wlbuild (cells := [str n, str t, .slice q2 es.length c2, .slice kp ks.len kc]) ?_
        refine wlpure (oneText_ok n (str t) (.slice q2 es.length c2) (.slice kp ks.len kc) _) fun w12 hf12 => ?_
        replace hS := hS.grow hf12
        refine sgo ?_
        by_cases hn : n = []
        · subst hn
          rw [if_pos rfl] at hmg
          refine wcyes ?_ (ht := by simp)
          refine sgo ?_
          refine wlcall (how _ _ hS) ?_
          rintro _ w13 ⟨q3, c3, K, rfl, hK, -, hS⟩
          refine sgo ?_
          refine sst_slice hS 3 fun w14 hS => ?_
          replace hS : Sep w w14 [pRow 4 q3 K.length c3 (K.flatMap NdM.cells), pMany (K.flatMap NdM.rows), pRow 2 q2 es.length c2 (es.flatMap At.cells), pOwn b5 [str [], str t, .slice q2 es.length c2, .slice q3 K.length c3], pRow 4 q L.length cc (L.flatMap NdM.cells), pMany (L.flatMap NdM.rows)] := hS
          refine sgo ?_
          refine sb1a (vs := [str [], str t, .slice q2 es.length c2, .slice q3 K.length c3]) hS fun b12 w15 hS => ?_
          refine sgo ?_
          refine sapp hS 5 (hS.own 0 rfl).sg (fun q4 c4 w16 hS => ?_) (h1 := by simp [Value.oneCell'])
          refine sgo ?_
          refine ⟨(i + 1, q4, c4, L ++ [⟨[], t, es, q2, c2, .of K, q3, c3⟩]), ⟨by dsimp only; rw [List.length_append]; rfl, rfl, rfl, rfl, trivial⟩, hpush ⟨[], t, es, q2, c2, .of K, q3, c3⟩ _ b12 b5 _ _ q4 c4 (by rw [hmg]; simp only [NdM.nd, fo_of, hK, ← fo_list]) (Nat.le_refl _) (by dsimp only [NdM.cells]; rw [len_of, FoM.list_of, rows_of]; exact hS), (by (try dsimp only); omega)⟩
        · rw [if_neg hn] at hmg
          refine wcno ?_ (ht := by simp [hn])
          refine sgo ?_
          refine wlcall (hih _ _ hS) ?_
          rintro _ w13 ⟨q3, c3, K, rfl, hK, -, hS⟩
          refine sgo ?_
          refine sst_slice hS 3 fun w14 hS => ?_
          replace hS : Sep w w14 [pRow 4 q3 K.length c3 (K.flatMap NdM.cells), pMany (K.flatMap NdM.rows), pRow 2 q2 es.length c2 (es.flatMap At.cells), pOwn b5 [str n, str t, .slice q2 es.length c2, .slice q3 K.length c3], pRow 4 q L.length cc (L.flatMap NdM.cells), pMany (L.flatMap NdM.rows)] := hS
          refine sgo ?_
          refine sb1a (vs := [str n, str t, .slice q2 es.length c2, .slice q3 K.length c3]) hS fun b12 w15 hS => ?_
          refine sgo ?_
          refine sapp hS 5 (hS.own 0 rfl).sg (fun q4 c4 w16 hS => ?_) (h1 := by simp [Value.oneCell'])
          refine sgo ?_
          refine ⟨(i + 1, q4, c4, L ++ [⟨n, t, es, q2, c2, .of K, q3, c3⟩]), ⟨by dsimp only; rw [List.length_append]; rfl, rfl, rfl, rfl, trivial⟩, hpush ⟨n, t, es, q2, c2, .of K, q3, c3⟩ _ b12 b5 _ _ q4 c4 (by rw [hmg]; simp only [NdM.nd, fo_of, hK]) (Nat.le_refl _) (by dsimp only [NdM.cells]; rw [len_of, FoM.list_of, rows_of]; exact hS), (by (try dsimp only); omega)⟩
    · obtain rfl : i = f.len := by omega
      rw [mgT_all] at hev
      have hcap := (hS.row 0 rfl).le_cap
      have hr := (hS.row 0 rfl).cap (j := L.length) (Nat.le_refl _) hcap.1
      replace hS := hS.turn 0 (c' := pRow 4 q L.length L.length (L.flatMap NdM.cells)) rfl (fun _ => hr) (fun x hx => hx)
      refine sgo ?_
      (first | refine fp1 (.inl rfl) rfl rfl ?_ | refine fp2 (.inl rfl) rfl rfl rfl ?_ | refine fp3 (.inl rfl) rfl rfl rfl rfl ?_ | refine fp0 (.inr rfl) rfl ?_ | refine fp0 (.inl rfl) rfl ?_ | refine fp1 (.inr rfl) rfl rfl ?_)
      exact ⟨q, L.length, L, rfl, hev, hS.frm, hS0.seq (ds := [_, _]) hS⟩
end Go.Proofs.YtcdogceabkpnmaaDoor

/-
  Chapter 21: sieveref21: Copy.
-/
set_option linter.unusedSimpArgs false
set_option linter.unusedVariables false
set_option linter.unnecessarySimpa false
namespace Go.Proofs.YtcdogceabkpnmaaDoor
open Go Go.Sv Go.RowKit
theorem bm4 {σ : Env} {x y z u : Operand} {v1 v2 v3 v4 : Value} {i j k m : Nat} (h : evl σ x = v1) (h2 : evl σ y = v2) (h3 : evl σ z = v3) (h4 : evl σ u = v4) : [(i, x), (j, y), (k, z), (m, u)].map (fun p => (p.1, evl σ p.2)) = [(i, v1), (j, v2), (k, v3), (m, v4)] := by simp [h, h2, h3, h4]
def cpyP (b5 : Nat) (q ap kp : Option Addr) (cc ac kc kl : Nat) (L : List NdM) (n t : List UInt8) (es : List At) (KL : List Nd) : PlanB (Option Addr × Nat × Option Addr × Nat × List NdM) where
  pl k d := match k with
    | 5 => [pRow 2 (pb d.b) 0 0 []]
    | 8 => [pRow 2 d.x.1 es.length d.x.2.1 (es.flatMap At.cells)]
    | 11 => [pRow 4 d.x.2.2.1 d.x.2.2.2.2.length d.x.2.2.2.1 (d.x.2.2.2.2.flatMap NdM.cells), pMany (d.x.2.2.2.2.flatMap NdM.rows)]
    | 13 => [pOwn d.b [str n, str t, .slice d.x.1 es.length d.x.2.1, .slice d.x.2.2.1 d.x.2.2.2.2.length d.x.2.2.2.1]]
    | 14 => [pRow 4 d.p (L.length + 1) d.c (L.flatMap NdM.cells ++ [str n, str t, .slice d.x.1 es.length d.x.2.1, .slice d.x.2.2.1 d.x.2.2.2.2.length d.x.2.2.2.1])]
    | _ => []
  con k := match k with
    | 5 => some 8
    | 13 => some 14
    | _ => none
  base k := match k with
    | 14 => [pRow 4 q L.length cc (L.flatMap NdM.cells)]
    | _ => []
  fact k a := match k with
    | 0 => (a 0).v = .slice q L.length cc
    | 1 => (a 1).v = ptrAt (pb b5) 0
    | 2 => (a 2).v = str n
    | 3 => (a 3).v = ptrAt (pb b5) 1
    | 4 => (a 4).v = str t
    | 5 => (a 5).v = .slice (pb (a 5).b) 0 0
    | 6 => (a 6).v = ptrAt (pb b5) 2
    | 7 => (a 7).v = .slice ap es.length ac
    | 8 => (a 8).v = .slice (a 8).x.1 es.length (a 8).x.2.1
    | 9 => (a 9).v = ptrAt (pb b5) 3
    | 10 => (a 10).v = .slice kp kl kc
    | 11 => (a 11).v = .slice (a 11).x.2.2.1 (a 11).x.2.2.2.2.length (a 11).x.2.2.2.1 ∧ (a 11).x.2.2.2.2.map NdM.nd = KL
    | 12 => (a 12).v = .agg ⟨[str n, str t, .slice (a 12).x.1 es.length (a 12).x.2.1, .slice (a 12).x.2.2.1 (a 12).x.2.2.2.2.length (a 12).x.2.2.2.1]⟩ ∧ (a 12).x = ((a 8).x.1, (a 8).x.2.1, (a 11).x.2.2)
    | 13 => (a 13).v = .slice (pb (a 13).b) 1 1 ∧ (a 13).x = (a 12).x
    | 14 => (a 14).v = .slice (a 14).p (L.length + 1) (a 14).c ∧ (a 14).x = (a 13).x
    | 15 => (a 15).v = .slice (a 14).p (L.length + 1) (a 14).c
    | _ => True
set_option maxHeartbeats 4000000 in
theorem copy21_ok : ∀ (k : Nat) (f : FoM) (p : Option Addr) (c : Nat), f.size < k → f.wt ≤ 1048576 → ∀ (w0 w : World) (cs : List Plot), Sep w0 w cs → Tre w p f →
    CallsR Tryd.prog 10 #[.slice p f.len c] w fun v w' => ∃ (q : Option Addr) (cc : Nat) (L : List NdM), v = .slice q L.length cc ∧ L.map NdM.nd = f.list.map NdM.nd ∧ Frm w w' ∧ Sep w0 w' (pRow 4 q L.length cc (L.flatMap NdM.cells) :: pMany (L.flatMap NdM.rows) :: cs) := by
  intro k
  induction k with
  | zero => intro f p c hk; omega
  | succ k ih =>
    intro f p c hk hw w0 w cs hS0 hT
    have hlw := FoM.len_wt f
    have hS := ((Sep.start w).zero).push (c := pRow 4 none 0 0 []) (Frm.refl _) (Row.nil _ 4) (rb_nil _)
    refine enter (l := [.slice p f.len c]) Tryd.func10 rfl Tryd.ntmps10 (by kernel_rfl) rfl ?_
    refine sgo ?_
    refine wcloop (X := Nat × Option Addr × Nat × List NdM) (fun x => [(3, .slice x.2.1 x.2.2.2.length x.2.2.1), (6, .slice p f.len c), (7, int f.len), (8, int x.1)])
      (fun x wr => x.1 ≤ f.len ∧ x.2.2.2.length = x.1 ∧ x.2.2.2.map NdM.nd = (f.list.map NdM.nd).take x.1 ∧ Sep w wr [pRow 4 x.2.1 x.2.2.2.length x.2.2.1 (x.2.2.2.flatMap NdM.cells), pMany (x.2.2.2.flatMap NdM.rows)])
      (fun x => f.len - x.1) (0, none, 0, []) ⟨rfl, rfl, rfl, rfl, trivial⟩ ⟨Nat.zero_le _, rfl, rfl, hS⟩ ?_
    clear hS
    rintro ⟨i, q, cc, L⟩ wr ρ ⟨hil, hLi, hev, hS⟩
    dsimp only at *
    refine sgo ?_
    (show WC _ _ _ _ _ _ _; first | refine WC_dec rfl (fun hc => ?_) (fun hc => ?_) | refine WC_cond rfl (fun hc => ?_) (fun hc => ?_))
    · have hlt : i < f.len := by omega
      have hTw := hT.frm hS.frm
      have hIm := hTw.im
      obtain ⟨m, hx, hm, hseg, hfl, hps, hat, hkT⟩ := tre_at hT hlt
      have hsz := FoM.size_mem hm
      have hsm := nd_small hw hm
      have hih := fun w' (cs' : List Plot) (h : Sep w w' cs') => ih m.kids m.kp m.kc (by omega) hsm.kids w w' cs' h (hkT.frm h.frm)
      have htk : (f.list.map NdM.nd).take (i + 1) = (f.list.map NdM.nd).take i ++ [m.nd] := by rw [List.take_add_one, List.getElem?_map, hx]; rfl
      have hes := hsm.attrs
      have hl1 := fm_len At.len m.attrs
      obtain ⟨n, t, es, ap, ac, ks, kp, kc⟩ := m
      dsimp only at hih hat hes hl1
      clear hc
      refine sgo ?_
      rw [hseg]
      refine salloc hS fun b5 w5 hS => ?_
      refine sgo ?_
      refine ssta (vs := [str n, str t, .slice ap es.length ac, .slice kp ks.len kc]) hS 0 fun w6 hS => ?_
      replace hS : Sep w w6 ([pRow 4 q L.length cc (L.flatMap NdM.cells)] ++ [pOwn b5 [str n, str t, .slice ap es.length ac, .slice kp ks.len kc], pMany (L.flatMap NdM.rows)]) := hS.perm (by exact List.Perm.swap _ _ _)
      refine sgo ?_
      refine wcplanb (b := [pRow 4 q L.length cc (L.flatMap NdM.cells)]) (cpyP b5 q ap kp cc ac kc ks.len L n t es (ks.list.map NdM.nd)) ⟨.nilIface, none, 0, 0, (none, 0, none, 0, [])⟩ hS rfl (fun j oj a a' hj he hd h => ?_) ⟨?_, ?_, ?_, ?_, ?_, ?_, ?_, ?_, ?_, ?_, ?_, ?_, ?_, ?_, ?_, ?_, trivial⟩ ?_
      · have hjl : j < 16 := (List.getElem?_eq_some_iff.1 hj).1
        match j, hjl with
        | 0, _ | 1, _ | 2, _ | 3, _ | 4, _ | 5, _ | 6, _ | 7, _ | 8, _ | 9, _ | 10, _ | 11, _ => first | (simp only [cpyP] at h ⊢; rw [← he]; exact h) | exact h
        | 12, _ => simp only [cpyP] at h ⊢; rw [← he, ← hd 8 (by cases hj; rfl), ← hd 11 (by cases hj; rfl)]; exact h
        | 13, _ => simp only [cpyP] at h ⊢; rw [← he, ← hd 12 (by cases hj; rfl)]; exact h
        | 14, _ => simp only [cpyP] at h ⊢; rw [← he, ← hd 13 (by cases hj; rfl)]; exact h
        | 15, _ => simp only [cpyP] at h ⊢; rw [← he, ← hd 14 (by cases hj; rfl)]; exact h
      · intro a σ' w' rest hσ hdep hS'   -- 0: move; pieces: sees 14 ..
        have e3 : σ' 3 = .slice q L.length cc := (hσ 3 (notDstB rfl)).trans rfl
        exact rule_e [(3, _)] ⟨e3, trivial⟩ ⟨⟨.slice q L.length cc, none, 0, 0, (none, 0, none, 0, [])⟩, rfl, rfl, hS'⟩
      · intro a σ' w' rest hσ hdep hS'   -- 1: fieldAddr; pieces:  ..
        have e5 : σ' 5 = ptrAt (pb b5) 0 := (hσ 5 (notDstB rfl)).trans rfl
        exact rule_y (y_field e5 ⟨_, rfl⟩ (by decide)) ⟨⟨ptrAt (pb b5) 0, none, 0, 0, (none, 0, none, 0, [])⟩, rfl, rfl, hS'⟩
      · intro a σ' w' rest hσ hdep hS'   -- 2: load; pieces:  ..
        have f1 := (hdep 1 _ rfl rfl).2
        have e13 := ((hdep 1 _ rfl rfl).1 13 rfl).trans f1
        exact rule_y (y_load e13 (Sep.sgv hS' 0 rfl) rfl) ⟨⟨str n, none, 0, 0, (none, 0, none, 0, [])⟩, rfl, rfl, hS'⟩
      · intro a σ' w' rest hσ hdep hS'   -- 3: fieldAddr; pieces:  ..
        have e5 : σ' 5 = ptrAt (pb b5) 0 := (hσ 5 (notDstB rfl)).trans rfl
        exact rule_y (y_field e5 ⟨_, rfl⟩ (by decide)) ⟨⟨ptrAt (pb b5) 1, none, 0, 0, (none, 0, none, 0, [])⟩, rfl, rfl, hS'⟩
      · intro a σ' w' rest hσ hdep hS'   -- 4: load; pieces:  ..
        have f3 := (hdep 3 _ rfl rfl).2
        have e15 := ((hdep 3 _ rfl rfl).1 15 rfl).trans f3
        exact rule_y (y_load e15 (Sep.sgv hS' 0 rfl) rfl) ⟨⟨str t, none, 0, 0, (none, 0, none, 0, [])⟩, rfl, rfl, hS'⟩
      · intro a σ' w' rest hσ hdep hS'   -- 5: buildSlice; pieces:  ..
        obtain ⟨b, w2, hy, hS2⟩ := y_bs0 (P := Tryd.prog) (t := 31) (d := some 17) hS'
        exact rule_y hy ⟨⟨.slice (pb b) 0 0, none, 0, b, (none, 0, none, 0, [])⟩, rfl, rfl, hS2⟩
      · intro a σ' w' rest hσ hdep hS'   -- 6: fieldAddr; pieces:  ..
        have e5 : σ' 5 = ptrAt (pb b5) 0 := (hσ 5 (notDstB rfl)).trans rfl
        exact rule_y (y_field e5 ⟨_, rfl⟩ (by decide)) ⟨⟨ptrAt (pb b5) 2, none, 0, 0, (none, 0, none, 0, [])⟩, rfl, rfl, hS'⟩
      · intro a σ' w' rest hσ hdep hS'   -- 7: load; pieces:  ..
        have f6 := (hdep 6 _ rfl rfl).2
        have e18 := ((hdep 6 _ rfl rfl).1 18 rfl).trans f6
        exact rule_y (y_load e18 (Sep.sgv hS' 0 rfl) rfl) ⟨⟨.slice ap es.length ac, none, 0, 0, (none, 0, none, 0, [])⟩, rfl, rfl, hS'⟩
      · intro a σ' w' rest hσ hdep hS'   -- 8: call; pieces: takes 5 ..
        have f5 := (hdep 5 _ rfl rfl).2
        have e17 := ((hdep 5 _ rfl rfl).1 17 rfl).trans f5
        have f7 := (hdep 7 _ rfl rfl).2
        have e19 := ((hdep 7 _ rfl rfl).1 19 rfl).trans f7
        obtain ⟨p2, c2, w2, hy, hS2⟩ := y_app (P := Tryd.prog) (t := 31) (t' := 31) (ty := 31) (d := some 20) (x := .tmp 17) (y := .tmp 19) (n := es.length) hS' 0 (hat.sep hS').sg rfl e17 e19 hl1 (att_one es) rfl (by decide) (by omega)
        rw [show 0 + es.length = es.length from Nat.zero_add _] at hy hS2
        exact rule_y hy ⟨⟨.slice p2 es.length c2, none, 0, 0, (p2, c2, none, 0, [])⟩, rfl, rfl, hS2⟩
      · intro a σ' w' rest hσ hdep hS'   -- 9: fieldAddr; pieces:  ..
        have e5 : σ' 5 = ptrAt (pb b5) 0 := (hσ 5 (notDstB rfl)).trans rfl
        exact rule_y (y_field e5 ⟨_, rfl⟩ (by decide)) ⟨⟨ptrAt (pb b5) 3, none, 0, 0, (none, 0, none, 0, [])⟩, rfl, rfl, hS'⟩
      · intro a σ' w' rest hσ hdep hS'   -- 10: load; pieces:  ..
        have f9 := (hdep 9 _ rfl rfl).2
        have e21 := ((hdep 9 _ rfl rfl).1 21 rfl).trans f9
        exact rule_y (y_load e21 (Sep.sgv hS' 0 rfl) rfl) ⟨⟨.slice kp ks.len kc, none, 0, 0, (none, 0, none, 0, [])⟩, rfl, rfl, hS'⟩
      · intro a σ' w' rest hσ hdep hS'   -- 11: call; pieces: sees 14 ..
        have f10 := (hdep 10 _ rfl rfl).2
        have e22 := ((hdep 10 _ rfl rfl).1 22 rfl).trans f10
        refine rule_call (vals := [.slice kp ks.len kc]) (hih w' _ hS') (fun v w2 hR => ?_) (am1 e22)
        obtain ⟨q3, c3, K, rfl, hK, -, hS2⟩ := hR
        exact ⟨⟨.slice q3 K.length c3, none, 0, 0, (none, 0, q3, c3, K)⟩, rfl, ⟨rfl, hK⟩, hS2⟩
      · intro a σ' w' rest hσ hdep hS'   -- 12: build; pieces:  ..
        have f2 := (hdep 2 _ rfl rfl).2
        have e14 := ((hdep 2 _ rfl rfl).1 14 rfl).trans f2
        have f4 := (hdep 4 _ rfl rfl).2
        have e16 := ((hdep 4 _ rfl rfl).1 16 rfl).trans f4
        have f8 := (hdep 8 _ rfl rfl).2
        have e20 := ((hdep 8 _ rfl rfl).1 20 rfl).trans f8
        have f11 := (hdep 11 _ rfl rfl).2
        have e23 := ((hdep 11 _ rfl rfl).1 23 rfl).trans f11.1
        exact rule_y (y_build (cells := [str n, str t, .slice (a 8).x.1 es.length (a 8).x.2.1, .slice (a 11).x.2.2.1 (a 11).x.2.2.2.2.length (a 11).x.2.2.2.1]) (by rw [bm4 (x := .tmp 14) (y := .tmp 16) (z := .tmp 20) (u := .tmp 23) e14 e16 e20 e23]; simp [fillL, setSeg, Value.cells] <;> rfl)) ⟨⟨.agg ⟨[str n, str t, .slice (a 8).x.1 es.length (a 8).x.2.1, .slice (a 11).x.2.2.1 (a 11).x.2.2.2.2.length (a 11).x.2.2.2.1]⟩, none, 0, 0, ((a 8).x.1, (a 8).x.2.1, (a 11).x.2.2)⟩, rfl, ⟨rfl, rfl⟩, hS'⟩
      · intro a σ' w' rest hσ hdep hS'   -- 13: buildSlice; pieces: sees 14 ..
        have f12 := (hdep 12 _ rfl rfl).2
        have e24 := ((hdep 12 _ rfl rfl).1 24 rfl).trans f12.1
        obtain ⟨b, w2, hy, hS2⟩ := y_bs1 (P := Tryd.prog) (t := 22) (d := some 25) (x := .tmp 24) (vs := [str n, str t, .slice (a 12).x.1 es.length (a 12).x.2.1, .slice (a 12).x.2.2.1 (a 12).x.2.2.2.2.length (a 12).x.2.2.2.1]) (size := 4) hS' e24 rfl rfl (by decide) (by decide)
        exact rule_y hy ⟨⟨.slice (pb b) 1 1, none, 0, b, (a 12).x⟩, rfl, ⟨rfl, rfl⟩, hS2⟩
      · intro a σ' w' rest hσ hdep hS'   -- 14: call; pieces: takes 13, base 14 ..
        have f0 := (hdep 0 _ rfl rfl).2
        have e12 := ((hdep 0 _ rfl rfl).1 12 rfl).trans f0
        have f13 := (hdep 13 _ rfl rfl).2
        have e25 := ((hdep 13 _ rfl rfl).1 25 rfl).trans f13.1
        obtain ⟨p2, c2, w2, hy, hS2⟩ := y_app (P := Tryd.prog) (t := 22) (t' := 22) (ty := 22) (d := some 26) (x := .tmp 12) (y := .tmp 25) (n := 1) hS' 1 (hS'.own 0 rfl).sg rfl e12 e25 rfl (by simp [Value.oneCell']) rfl (by decide) (by omega)
        exact rule_y hy ⟨⟨.slice p2 (L.length + 1) c2, p2, c2, 0, (a 13).x⟩, rfl, ⟨rfl, rfl⟩, hS2.drop 0 rfl⟩
      · intro a σ' w' rest hσ hdep hS'   -- 15: assign; pieces:  ..
        have f14 := (hdep 14 _ rfl rfl).2
        have e26 := ((hdep 14 _ rfl rfl).1 26 rfl).trans f14.1
        exact rule_e [(26, _)] ⟨e26, trivial⟩ ⟨⟨.slice (a 14).p (L.length + 1) (a 14).c, none, 0, 0, (none, 0, none, 0, [])⟩, rfl, rfl, hS'⟩
      · intro a σ' w' hσ hA' hS'
        have h15 := hA' 15 _ rfl
        have hK := (hA' 11 _ rfl).2.2
        rw [frameOf (σ := σ') [(3, .slice (a 14).p (L.length + 1) (a 14).c), (6, .slice p f.len c), (7, int f.len), (8, int i)] ⟨(h15.1 3 rfl).trans h15.2, (hσ 6 (notDst rfl)).trans rfl, (hσ 7 (notDst rfl)).trans rfl, (hσ 8 (notDst rfl)).trans rfl, trivial⟩]
        have hx12 := (hA' 12 _ rfl).2.2
        have hx13 := (hA' 13 _ rfl).2.2
        have hx14 := (hA' 14 _ rfl).2.2
        replace hS' : Sep w w' [pRow 2 (a 8).x.1 es.length (a 8).x.2.1 (es.flatMap At.cells), pRow 4 (a 11).x.2.2.1 (a 11).x.2.2.2.2.length (a 11).x.2.2.2.1 ((a 11).x.2.2.2.2.flatMap NdM.cells), pMany ((a 11).x.2.2.2.2.flatMap NdM.rows), pRow 4 (a 14).p (L.length + 1) (a 14).c (L.flatMap NdM.cells ++ [str n, str t, .slice (a 14).x.1 es.length (a 14).x.2.1, .slice (a 14).x.2.2.1 (a 14).x.2.2.2.2.length (a 14).x.2.2.2.1]), pOwn b5 [str n, str t, .slice ap es.length ac, .slice kp ks.len kc], pMany (L.flatMap NdM.rows)] := hS'
        rw [hx14, hx13, hx12] at hS'
        have hnx := Sep.putNode2 (m := ⟨n, t, es, (a 8).x.1, (a 8).x.2.1, .of (a 11).x.2.2.2.2, (a 11).x.2.2.1, (a 11).x.2.2.2.1⟩) (L := L) (b' := b5) (q := (a 14).p) (cc := (a 14).c) (by rw [NdM.cells, len_of, FoM.list_of, rows_of]; exact hS')
        refine sgo ?_
        refine ⟨(i + 1, (a 14).p, (a 14).c, L ++ [⟨n, t, es, (a 8).x.1, (a 8).x.2.1, .of (a 11).x.2.2.2.2, (a 11).x.2.2.1, (a 11).x.2.2.2.1⟩]), ⟨by dsimp only; rw [List.length_append]; rfl, rfl, rfl, rfl, trivial⟩, ⟨hlt, by simp [hLi], ?_, hnx⟩, (by (try dsimp only); omega)⟩
        dsimp only
        rw [htk, List.map_append, hev, List.map_cons, List.map_nil]
        congr 2
        show Nd.mk n t es (FoM.of (a 11).x.2.2.2.2).fo = Nd.mk n t es ks.fo
        rw [fo_of, hK, ← fo_list]
    · obtain rfl : i = f.len := by omega
      refine sgo ?_
      (first | refine fp1 (.inl rfl) rfl rfl ?_ | refine fp2 (.inl rfl) rfl rfl rfl ?_ | refine fp3 (.inl rfl) rfl rfl rfl rfl ?_ | refine fp0 (.inr rfl) rfl ?_ | refine fp0 (.inl rfl) rfl ?_ | refine fp1 (.inr rfl) rfl rfl ?_)
      refine ⟨q, cc, L, rfl, ?_, hS.frm, hS0.seq (ds := [_, _]) hS⟩
      rw [hev]
      exact List.take_of_length_le (by rw [List.length_map]; exact Nat.le_refl _)
end Go.Proofs.YtcdogceabkpnmaaDoor

/-
  Chapter 21: DomMerges walked.
-/
set_option linter.unusedSimpArgs false
set_option linter.unusedVariables false
set_option linter.unnecessarySimpa false
namespace Go.Proofs.YtcdogceabkpnmaaDoor
open Go Go.Sv Go.RowKit
theorem putT_wt (out : List Nd) (t : List UInt8) (es : List At) (ks : Fo) : ((putT out t es ks).map nW).sum ≤ (out.map nW).sum + (4 + t.length + (es.map At.wt).sum + ks.wt) := by
  rcases List.eq_nil_or_concat out with rfl | ⟨l, m, rfl⟩
  · rw [putT_nil]; split <;> simp [nW] <;> omega
  · rw [List.concat_eq_append, putT_snoc]
    split
    · omega
    · split
      · simp [nW] <;> omega
      · simp [nW] <;> omega
theorem merge_wt (f : Fo) : ∀ out, ((f.merge out).map nW).sum ≤ (out.map nW).sum + f.wt := by
  induction f with
  | nil => intro out; simp [Fo.merge, Fo.wt]
  | cons n t es ks r ih1 ih2 =>
    intro out
    simp only [Fo.merge, Fo.wt]
    have h2 := ih2 (if n = [] then putT out t es ks else out ++ [⟨n, t, es, .of (ks.merge [])⟩])
    split at h2
    · rename_i hn
      have := putT_wt out t es ks
      rw [if_pos hn]
      omega
    · rename_i hn
      rw [if_neg hn]
      have h1 := ih1 []
      simp only [List.map_append, List.map_cons, List.map_nil, List.sum_append, List.sum_cons, List.sum_nil, nW, wt_of] at h2 h1
      omega
theorem merged_wt {L : List NdM} {f : FoM} (h : L.map NdM.nd = f.fo.merge []) : (FoM.of L).wt ≤ f.wt := by
  have := merge_wt f.fo []
  rw [wt_fo, fo_of, h, wt_of, wt_fo f]
  simpa using this
theorem fo_same {L K : List NdM} (h : L.map NdM.nd = K.map NdM.nd) : (FoM.of L).fo = (FoM.of K).fo := by rw [fo_of, fo_of, h]
theorem fo_copy {L : List NdM} {f : FoM} (h : L.map NdM.nd = f.list.map NdM.nd) : (FoM.of L).fo = f.fo := by rw [fo_of, h, ← fo_list]
set_option maxHeartbeats 4000000 in
theorem domMerges_ok (f : FoM) (p : Option Addr) (c : Nat) (hw : f.wt ≤ 1048576) (w : World) (hA : Asc w) (hT : Tre w p f) : PureC Tryd.prog 4 #[.slice p f.len c] w (.bool true) := by
  have hS := Sep.start w
  refine enter (l := [.slice p f.len c]) Tryd.func4 rfl Tryd.ntmps4 (by kernel_rfl) rfl ?_
  refine sgo ?_
  refine wlcall (copy21_ok (f.size + 1) f p c (Nat.lt_succ_self _) hw w w _ hS hT) ?_
  rintro _ w1 ⟨qg, cg, G, rfl, hG, -, hS⟩
  have hGw : (FoM.of G).wt ≤ 1048576 := by rw [wt_of_nd hG]; exact hw
  have hGf := fo_copy hG
  refine sgo ?_
  have hM := domMerge_ok ((FoM.of G).size + 1) (FoM.of G) qg cg (Nat.lt_succ_self _) hGw w w1 _ hS (Sep.treL hS 0 1 rfl rfl)
  rw [len_of, hGf] at hM
  refine wlcall hM ?_
  clear hM
  rintro _ w2 ⟨q1, c1, M1, rfl, hM1, -, hS⟩
  refine sgo ?_
  have hM := domMerge_ok ((FoM.of G).size + 1) (FoM.of G) qg cg (Nat.lt_succ_self _) hGw w w2 _ hS (Sep.treL hS 2 3 rfl rfl)
  rw [len_of, hGf] at hM
  refine wlcall hM ?_
  clear hM
  rintro _ w3 ⟨q2, c2, M2, rfl, hM2, -, hS⟩
  refine sgo ?_
  refine wlcall (copy21_ok (f.size + 1) f p c (Nat.lt_succ_self _) hw w w3 _ hS (hT.frm hS.frm)) ?_
  rintro _ w4 ⟨q3, c3, C, rfl, hC, -, hS⟩
  have hCw : (FoM.of C).wt ≤ 1048576 := by rw [wt_of_nd hC]; exact hw
  refine sgo ?_
  refine wlcall (refMerge21_ok ((FoM.of C).size + 1) C q3 c3 (Nat.lt_succ_self _) hCw w w4 _ hS) ?_
  rintro _ w5 ⟨q4, c4, W, rfl, hW, hS⟩
  rw [fo_copy hC] at hW
  have hM1w := Nat.le_trans (merged_wt hM1) hw
  have hM2w := Nat.le_trans (merged_wt hM2) hw
  have hWw := Nat.le_trans (merged_wt hW) hw
  refine sgo ?_
  have hE := refEqual21_ok ((FoM.of M1).size + 1) (FoM.of M1) (FoM.of W) q1 q4 c1 c4 (Nat.lt_succ_self _) hM1w hWw w5 (Sep.treL hS 4 5 rfl rfl) (Sep.treL hS 0 1 rfl rfl)
  rw [len_of, len_of, decide_eq_true (fo_same (hM1.trans hW.symm))] at hE
  refine wlpure hE fun w6 hf6 => ?_
  clear hE
  replace hS := hS.grow hf6
  refine sgo ?_
  refine wlcall (spoil21_ok ((FoM.of M1).size + 1) M1 q1 c1 (Nat.lt_succ_self _) hM1w w w6 _ (hS.sel 8 [4, 5, 0, 1, 2, 3, 6, 7])) ?_
  clear hS
  rintro _ w7 hS
  refine sgo ?_
  have hE := refEqual21_ok ((FoM.of M2).size + 1) (FoM.of M2) (FoM.of W) q2 q4 c2 c4 (Nat.lt_succ_self _) hM2w hWw w7 (Sep.treL hS 2 3 rfl rfl) (Sep.treL hS 0 1 rfl rfl)
  rw [len_of, len_of, decide_eq_true (fo_same (hM2.trans hW.symm))] at hE
  refine wlpure hE fun w8 hf8 => ?_
  clear hE
  replace hS := hS.grow hf8
  refine sgo ?_
  have hE := refEqual21_ok ((FoM.of G).size + 1) (FoM.of G) f qg p cg c (Nat.lt_succ_self _) hGw hw w8 (Sep.treL hS 4 5 rfl rfl) (hT.frm hS.frm)
  rw [len_of, decide_eq_true hGf] at hE
  refine wlcallgp (vals := [.slice qg G.length cg, .slice p f.len c]) (fun _ => hE) fun w9 hf9 => ?_
  clear hE
  replace hS := hS.grow hf9
  refine sgo ?_
  refine wlcallgp (vals := []) (fun _ => lives21_ok _ (hA.frm hS.frm)) (fun w10 hf10 => ?_) (ha := fun _ => rfl)
  replace hS := hS.grow hf10
  refine sgo ?_
  (first | refine fp1 (.inl rfl) rfl rfl ?_ | refine fp2 (.inl rfl) rfl rfl rfl ?_ | refine fp3 (.inl rfl) rfl rfl rfl rfl ?_ | refine fp0 (.inr rfl) rfl ?_ | refine fp0 (.inl rfl) rfl ?_ | refine fp1 (.inr rfl) rfl rfl ?_); refine ⟨?_, by (first | exact Frm.refl _ | assumption | exact Go.Sv.Sep.frm (by assumption) | (refine Frm.trans ?_ (by assumption); first | exact Frm.refl _ | assumption))⟩; (try simp only [realB, rv_true, Nat.reduceBEq, cond_true, cond_false, entG, real_lif, updGL])
  try rfl
end Go.Proofs.YtcdogceabkpnmaaDoor

