/-
  Our texts SvDqQ, SvPost, SvOpen, SvOpnAt, SvOpn18, SvOpn21, SvOpn, SvAsc, joined.
-/
import Derived.Test.YtcdogceabkpnmaaDoorMg6
import Derived.ChangeSame
import Derived.Test.YtcdogceabkpnmaaDoorRows
import Derived.WalkKit
import Derived.ProofKit
import Derived.OpenShut
import Derived.JoinedCond
import Derived.Deep.Slices
import Derived.WideKeyArgs
import Derived.Lib.LaidTab
import Derived.Deep.DeepHandedRow
import Derived.Deep.DeepWitnessRowRef
/-
  Chapter 21: DomQueries walked: the law.
-/
set_option linter.unusedSimpArgs false
set_option linter.unusedVariables false
set_option linter.unnecessarySimpa false
namespace Go.Proofs.YtcdogceabkpnmaaDoor
open Go Go.Sv Go.RowKit

/-- rows that are still where they were, whatever they hold -/
def SameRows (V : List WayM) (rs : List RowD) : Prop := ∀ (j : Nat) (x : WayM), V[j]? = some x → ∃ xs, rs[j]? = some ⟨1, x.p, x.l.length, x.c, xs⟩ ∧ xs.length = x.l.length
theorem sameRows_start (V : List WayM) : SameRows V (V.map WayM.row) := by
  intro j x h
  refine ⟨ints x.l, ?_, ints_len _⟩
  rw [List.getElem?_map, h]; rfl
theorem sameRows_set {V : List WayM} {rs : List RowD} {i : Nat} {x : WayM} {ys : List Value} (h : SameRows V rs) (hx : V[i]? = some x) (hy : ys.length = x.l.length) : SameRows V (rs.set i ⟨1, x.p, x.l.length, x.c, ys⟩) := by
  intro j z hz
  obtain ⟨xs, h1, h2⟩ := h j z hz
  by_cases hij : i = j
  · subst hij
    obtain rfl : x = z := by rw [hx] at hz; exact Option.some.inj hz
    refine ⟨ys, ?_, hy⟩
    rw [List.getElem?_set, if_pos rfl, if_pos (List.getElem?_eq_some_iff.1 h1).1]
  · exact ⟨xs, by rw [List.getElem?_set, if_neg hij]; exact h1, h2⟩
set_option maxHeartbeats 8000000 in
theorem domQueries_ok (s : List UInt8) (hb : s.length ≤ 1048576) (f : FoM) (p : Option Addr) (c : Nat) (hw : f.wt ≤ 1048576) (w : World) (hA : Asc w) (hT : Tre w p f) :
    PureC Tryd.prog 9 #[str s, .slice p f.len c] w (.bool true) := by
  have hS := Sep.start w
  have hsz := size_wt f
  refine enter (l := [str s, .slice p f.len c]) Tryd.func9 rfl Tryd.ntmps9 (by kernel_rfl) rfl ?_
  refine sgo ?_
  refine wlcall (copy21_ok (f.size + 1) f p c (Nat.lt_succ_self _) hw w w _ hS hT) ?_
  repeat clear hS
  rintro _ w1 ⟨qg, cg, G, rfl, hG, -, hS⟩
  have hGw : (FoM.of G).wt ≤ 1048576 := by rw [wt_of_nd hG]; exact hw
  have hGf := fo_copy hG
  have hQ := fun (w' : World) (hT' : Tre w' qg (FoM.of G)) => dQ_ok s hb (FoM.of G) qg cg hGw w' hT'
  rw [len_of] at hQ
  refine sgo ?_
  refine wlcall (hQ _ (Sep.treL hS 0 1 rfl rfl)) ?_
  rintro _ w2 ⟨V, qv, cv, e1, rfl, hS2, h1⟩
  replace hS := hS.seq hS2
  clear hS2
  replace hS : Sep w w2 [pRow 1 qv V.length cv (ways V), pMany (V.map WayM.row), pRow 4 qg G.length cg (G.flatMap NdM.cells), pMany (G.flatMap NdM.rows)] := hS
  refine sgo ?_
  refine wlcall (hQ _ (Sep.treL hS 2 3 rfl rfl)) ?_
  rintro _ w3 ⟨U, qu, cu, e2, rfl, hS2, h2⟩
  replace hS := hS.seq hS2
  clear hS2
  replace hS : Sep w w3 [pRow 1 qu U.length cu (ways U), pMany (U.map WayM.row), pRow 1 qv V.length cv (ways V), pMany (V.map WayM.row), pRow 4 qg G.length cg (G.flatMap NdM.cells), pMany (G.flatMap NdM.rows)] := hS
  refine sgo ?_
  refine wlcall (rSteps_ok s (by omega) w _ _ hS) ?_
  repeat clear hS
  rintro v w4 hD
  rcases hD with ⟨M, q, cq, hsel, rfl, hS⟩ | ⟨hsel, rfl, hS⟩
  · obtain ⟨he1, hV⟩ : e1 = 0 ∧ V.map WayM.l = qryF (M.map StM.st) [] f.fo [] 0 := by
      rcases h1 with ⟨h, _, _⟩ | ⟨L, h, he, hv⟩
      · rw [hsel] at h; cases h
      · rw [hsel] at h; cases h; rw [hGf] at hv; exact ⟨he, hv⟩
    have hU : U.map WayM.l = qryF (M.map StM.st) [] f.fo [] 0 := by
      rcases h2 with ⟨h, _, _⟩ | ⟨L, h, he, hv⟩
      · rw [hsel] at h; cases h
      · rw [hsel] at h; cases h; rw [hGf] at hv; exact hv
    subst he1
    clear h1 h2
    have hst : Stps w4 (fun m => m.tests.flatMap Tst.ref) M q := stps_of (mr := StM.rrow) hS hsel hb fun m => ⟨rfl, rfl⟩
    refine sgo ?_
    refine wlcall (rQuery_ok M q cq (f.size + 1) f p c (Nat.lt_succ_self _) hw [] none 0 [] none 0 (by simp; omega) (by simp; omega) w4 hst (by simp) (hT.frm hS.frm) (Im.nil _ _ _) (Im.nil _ _ _)) ?_
    rintro _ w5 ⟨W, qw, cw, rfl, hW, hS2⟩
    replace hW : W.map WayM.l = qryF (M.map StM.st) [] f.fo [] 0 := hW
    replace hS := hS.seq hS2
    clear hS2 hst
    replace hS : Sep w w5 [pRow 1 qw W.length cw (ways W), pMany (W.map WayM.row), pRow 1 qu U.length cu (ways U), pMany (U.map WayM.row), pRow 1 qv V.length cv (ways V), pMany (V.map WayM.row), pRow 4 qg G.length cg (G.flatMap NdM.cells), pMany (G.flatMap NdM.rows)] := by
      have h2 := hS.sel 10 [0, 1, 4, 5, 6, 7, 8, 9]
      simp only [List.filterMap_cons, List.filterMap_nil, List.getElem?_cons_succ, List.getElem?_cons_zero, List.drop_succ_cons, List.drop_zero, List.cons_append, List.nil_append] at h2
      exact h2
    have hql := qry_len (M.map StM.st) f [] [] 0
    have hqw := qry_ways (M.map StM.st) f [] [] 0
    generalize qryF (M.map StM.st) [] f.fo [] 0 = Z at *
    have hVl := map_len hV
    have hUl := map_len hU
    have hWl := map_len hW
    have hsm : ∀ (X : List WayM), X.map WayM.l = Z → ∀ x ∈ X, x.l.length ≤ 4194304 := by
      intro X hX x hx
      have := hqw x.l (by rw [← hX]; exact List.mem_map_of_mem hx)
      simp at this
      omega
    have hVs := hsm V hV
    have hUs := hsm U hU
    have hWs := hsm W hW
    have hsame := sameWays_ok V W qv qw cv cw (by omega) (by omega) w5 (hS.im 4 rfl) (hS.im 0 rfl) (fun x hx => ⟨hVs x hx, ways_read (hS.many 5 rfl) hx⟩) (fun x hx => ⟨hWs x hx, ways_read (hS.many 1 rfl) hx⟩)
    rw [decide_eq_true (hV.trans hW.symm)] at hsame
    refine sgo ?_
    refine wlcallgp (vals := [.slice qv V.length cv, .slice qw W.length cw]) (fun _ => hsame) fun w6 hf6 => ?_
    replace hS := hS.grow hf6
    clear hsame
    refine sgo ?_
    refine wcutj (X := Unit) (fun _ => [(1, .slice p f.len c), (5, .slice qg G.length cg), (8, .slice qu U.length cu), (12, .slice qw W.length cw)])
      (fun _ wr => Sep w wr [pRow 1 qw W.length cw (ways W), pMany (W.map WayM.row), pRow 1 qu U.length cu (ways U), pMany (U.map WayM.row), pRow 4 qg G.length cg (G.flatMap NdM.cells), pMany (G.flatMap NdM.rows)]) ?_ ?_
    · refine wcloop (X := Nat) (fun i => [(1, .slice p f.len c), (5, .slice qg G.length cg), (6, .slice qv V.length cv), (8, .slice qu U.length cu), (12, .slice qw W.length cw), (62, int V.length), (63, int i)])
        (fun i wr => i ≤ V.length ∧ ∃ rs, SameRows V rs ∧ Sep w wr [pRow 1 qv V.length cv (ways V), pMany rs, pRow 1 qw W.length cw (ways W), pMany (W.map WayM.row), pRow 1 qu U.length cu (ways U), pMany (U.map WayM.row), pRow 4 qg G.length cg (G.flatMap NdM.cells), pMany (G.flatMap NdM.rows)])
        (fun i => V.length - i) 0 ⟨rfl, rfl, rfl, rfl, rfl, rfl, rfl, trivial⟩ ⟨Nat.zero_le _, _, sameRows_start V, ?_⟩ ?_
      · have h2 := hS.sel 8 [4, 5, 0, 1, 2, 3, 6, 7]
        simp only [List.filterMap_cons, List.filterMap_nil, List.getElem?_cons_succ, List.getElem?_cons_zero, List.drop_succ_cons, List.drop_zero, List.cons_append, List.nil_append] at h2
        exact h2
      repeat clear hS
      rintro i wr ρ ⟨hil, rs, hrs, hS⟩
      have hlv := ways_len V
      refine sgo ?_
      (show WC _ _ _ _ _ _ _; first | refine WC_dec rfl (fun hc => ?_) (fun hc => ?_) | refine WC_cond rfl (fun hc => ?_) (fun hc => ?_))
      · have hlt : i < V.length := by omega
        obtain ⟨x, hx⟩ : ∃ x, V[i]? = some x := ⟨_, List.getElem?_eq_getElem hlt⟩
        have g0 := ways_at hx
        have hpv : ∃ a, qv = some a := (hS.im 0 rfl).some (by rw [ways_len]; omega)
        have hxl := hVs x (List.mem_of_getElem? hx)
        clear hc
        refine sgo ?_
        refine wcloop (X := Nat) (fun k => [(1, .slice p f.len c), (5, .slice qg G.length cg), (6, .slice qv V.length cv), (8, .slice qu U.length cu), (12, .slice qw W.length cw), (13, int i), (62, int V.length), (63, int i), (70, int x.l.length), (71, int k)])
          (fun k wr => k ≤ x.l.length ∧ ∃ rs, SameRows V rs ∧ Sep w wr [pRow 1 qv V.length cv (ways V), pMany rs, pRow 1 qw W.length cw (ways W), pMany (W.map WayM.row), pRow 1 qu U.length cu (ways U), pMany (U.map WayM.row), pRow 4 qg G.length cg (G.flatMap NdM.cells), pMany (G.flatMap NdM.rows)])
          (fun k => x.l.length - k) 0 ⟨rfl, rfl, rfl, rfl, rfl, rfl, rfl, rfl, rfl, rfl, trivial⟩ ⟨Nat.zero_le _, rs, hrs, hS⟩ ?_
        repeat clear hS
        clear hrs rs
        rintro k wr2 ρ2 ⟨hkl, rs, hrs, hS⟩
        refine sgo ?_
        (show WC _ _ _ _ _ _ _; first | refine WC_dec rfl (fun hc => ?_) (fun hc => ?_) | refine WC_cond rfl (fun hc => ?_) (fun hc => ?_))
        · have hlt2 : k < x.l.length := by omega
          clear hc
          obtain ⟨xs, hj, hxs⟩ := hrs i x hx
          have hpx : ∃ a, x.p = some a := (RowD.im (hS.many 1 rfl _ (List.mem_of_getElem? hj))).some (by dsimp only; omega)
          refine sgo ?_
          refine smst (v := .int .i64 (-1)) (k := k) hS 1 hj (fun w9 hS => ?_) (hk := by dsimp only; omega)
          refine sgo ?_
          refine ⟨k + 1, ⟨rfl, rfl, rfl, rfl, rfl, rfl, rfl, rfl, rfl, rfl, trivial⟩, ⟨hlt2, _, sameRows_set hrs hx ?_, hS⟩, by omega⟩
          simp [Value.cells]
          omega
        · refine sgo ?_
          exact ⟨i + 1, ⟨rfl, rfl, rfl, rfl, rfl, rfl, rfl, trivial⟩, ⟨hlt, rs, hrs, hS⟩, by omega⟩
      · refine sgo ?_
        exact ⟨(), ⟨rfl, rfl, rfl, rfl, trivial⟩, hS.sel 8 [2, 3, 4, 5, 6, 7]⟩
    · repeat clear hS
      rintro _ w7 ρ hS
      have hsame := sameWays_ok U W qu qw cu cw (by omega) (by omega) w7 (hS.im 2 rfl) (hS.im 0 rfl) (fun x hx => ⟨hUs x hx, ways_read (hS.many 3 rfl) hx⟩) (fun x hx => ⟨hWs x hx, ways_read (hS.many 1 rfl) hx⟩)
      rw [decide_eq_true (hU.trans hW.symm)] at hsame
      have hE := fun (w8 : World) (hf : Frm w7 w8) => refEqual21_ok ((FoM.of G).size + 1) (FoM.of G) f qg p cg c (Nat.lt_succ_self _) hGw hw w8 ((Sep.treL hS 4 5 rfl rfl).frm hf) ((hT.frm hS.frm).frm hf)
      rw [len_of, hGf] at hE
      refine sgo ?_
      refine wlpure hsame fun w8 hf8 => ?_
      replace hS := hS.grow hf8
      refine sgo ?_
      refine wlcallgp (vals := [.slice qg G.length cg, .slice p f.len c]) (fun _ => hE w8 hf8) fun w9 hf9 => ?_
      replace hS := hS.grow hf9
      refine sgo ?_
      refine wlcallgp (vals := []) (fun _ => lives21_ok _ (hA.frm hS.frm)) (fun w10 hf10 => ?_) (ha := fun _ => rfl)
      replace hS := hS.grow hf10
      refine sgo ?_
      (first | refine fp1 (.inl rfl) rfl rfl ?_ | refine fp2 (.inl rfl) rfl rfl rfl ?_ | refine fp3 (.inl rfl) rfl rfl rfl rfl ?_ | refine fp0 (.inr rfl) rfl ?_ | refine fp0 (.inl rfl) rfl ?_ | refine fp1 (.inr rfl) rfl rfl ?_); refine ⟨?_, by (first | exact Frm.refl _ | assumption | exact Go.Sv.Sep.frm (by assumption) | (refine Frm.trans ?_ (by assumption); first | exact Frm.refl _ | assumption))⟩; (try simp only [realB, rv_true, Nat.reduceBEq, cond_true, cond_false, entG, real_lif, updGL])
      simp [pkb_and]
  · obtain ⟨he1, hV⟩ : e1 = 211 ∧ V = [] := by
      rcases h1 with ⟨_, h, he⟩ | ⟨L, h, _⟩
      · exact ⟨he, h⟩
      · rw [hsel] at h; cases h
    subst he1 hV
    refine sgo ?_
    refine wlcallgp (vals := []) (fun _ => lives21_ok _ (hA.frm hS.frm)) (fun w10 hf10 => ?_) (ha := fun _ => rfl)
    replace hS := hS.grow hf10
    refine sgo ?_
    (first | refine fp1 (.inl rfl) rfl rfl ?_ | refine fp2 (.inl rfl) rfl rfl rfl ?_ | refine fp3 (.inl rfl) rfl rfl rfl rfl ?_ | refine fp0 (.inr rfl) rfl ?_ | refine fp0 (.inl rfl) rfl ?_ | refine fp1 (.inr rfl) rfl rfl ?_); refine ⟨?_, by (first | exact Frm.refl _ | assumption | exact Go.Sv.Sep.frm (by assumption) | (refine Frm.trans ?_ (by assumption); first | exact Frm.refl _ | assumption))⟩; (try simp only [realB, rv_true, Nat.reduceBEq, cond_true, cond_false, entG, real_lif, updGL])
    simp [pkb_and]
end Go.Proofs.YtcdogceabkpnmaaDoor

/-
  From a frame to what a row asks behind the call: nothing that was there has turned (new blocks may be frozen).
-/
set_option linter.unusedSimpArgs false
set_option linter.unusedVariables false
set_option linter.unnecessarySimpa false
namespace Go.ChangeShapes
section
variable {H : Type} {enc : TypeId × Value → H} {P : Program}
theorem post_frm {f : Func} {s : ChangeSpec} {apart fresh handsOn again : Bool} {W W' : World} {args : Array Value} {v : Value} {ds gs : List (DataW H)} {before pa pv : List MemPlace}
    (hW : DataW.Whole enc P f.params.toList s.vars apart W args.toList ds gs before)
    (hres : ∀ (b : Nat) (sp : Nat → Bool) (hd : Bool), DataW.TrodAll enc P W' b sp hd f.resultTypes.toList (v.resultList f.resultTypes.size) (s.fn H (ds ++ gs)).results [])
    (hargs : ∀ sp : Nat → Bool, (∀ p ∈ before, sp p.block = true) → DataW.TrodAll enc P W' 0 sp true f.params.toList args.toList (s.fn H (ds ++ gs)).args pa)
    (hvars : ∀ sp : Nat → Bool, (∀ p ∈ before, sp p.block = true) → DataW.TrodVars enc P W' sp s.vars (s.fn H (ds ++ gs)).vars pv)
    (hps : before = pa ++ pv) (hk : Sv.Frm W W')
    (hok : ∀ (j : Nat) (t : TypeId) (r : Value), f.resultTypes[j]? = some t → (v.resultList f.resultTypes.size)[j]? = some r → Value.okWide P W' .any 0 t r) :
    s.post enc P f apart fresh handsOn again W args v W' := by
  have hold : ∀ p ∈ before, (fun b => decide (b < W.heap.size)) p.block = true := fun p hp => by simpa using hW.lt p hp
  refine ⟨ds, gs, before, [], pa, pv, hW, hres _ _ _, hargs _ hold, hvars _ hold, World.keptBut_mono (fun p hp => ⟨hp, ?_⟩) (RowKit.Below.frame hk (· ∈ before)), fun _ => ?_⟩
  · rw [hps, List.mem_append] at hp
    exact Or.inr hp
  · have hlt := hW.lt
    obtain ⟨_, _, _, _, _, hz, hn⟩ := hW
    refine ⟨hok, _, _, ([] ++ pa) ++ pv, ⟨[] ++ pa, pv, trodAll_append (hargs _ (fun _ _ => rfl)) (hres _ _ _), hvars _ (fun _ _ => rfl), rfl, ?_, ?_⟩, ?_⟩
    · intro b off hp
      have hp' : (.cell b off : MemPlace) ∈ before := by rw [hps]; simpa using hp
      rw [RowKit.Below.frozen hk (hlt _ hp')]
      exact hz b off hp'
    · intro ha
      have := hn ha
      rw [hps] at this
      simpa using this
    · intro p hp _
      rw [hps]
      simpa using hp
end
end Go.ChangeShapes

/-
  From a reading of the arguments to what lies in memory; and back: a law leaves the arguments as they were.
-/
set_option linter.unusedSimpArgs false
set_option linter.unusedVariables false
set_option linter.unnecessarySimpa false
namespace Go.Sv
open Go Go.RowKit Go.ChangeShapes Go.WideShapes
theorem cell_lt {w : World} {a : Addr} {v : Value} (h : w.cell? a = some v) : a.block < w.heap.size := by
  rcases Nat.lt_or_ge a.block w.heap.size with h1 | h1
  · exact h1
  · have : w.heap[a.block]? = none := Array.getElem?_eq_none h1
    simp [World.cell?, this] at h
theorem seg_app {w : World} {a : Addr} {l l' : List Value} (h : seg w a l) (h' : seg w (a.add l.length) l') : seg w a (l ++ l') := by
  intro i hi
  rcases Nat.lt_or_ge i l.length with h1 | h1
  · rw [h i h1, List.getElem?_append_left h1]
  · have := h' (i - l.length) (by simp at hi; omega)
    rw [add_add, show l.length + (i - l.length) = i by omega] at this
    rw [this, List.getElem?_append_right h1]
theorem seg_range {w : World} {a : Addr} {k : Nat} (f : Nat → List Value) : ∀ n : Nat, (∀ i, i < n → (f i).length = k ∧ seg w (a.add (i * k)) (f i)) → seg w a ((List.range n).flatMap f) ∧ ((List.range n).flatMap f).length = n * k
  | 0, _ => ⟨fun i hi => by simp at hi, by simp⟩
  | n + 1, h => by
    obtain ⟨h1, h2⟩ := seg_range f n fun i hi => h i (by omega)
    obtain ⟨h3, h4⟩ := h n (by omega)
    rw [List.range_succ, List.flatMap_append]
    simp only [List.flatMap_cons, List.flatMap_nil, List.append_nil]
    refine ⟨seg_app h1 (by rw [h2]; exact h4), ?_⟩
    rw [List.length_append, h2, h3, Nat.succ_mul]
/-- a law's ending: it answered true, and left all as it was -/
theorem trodAll_frm {H : Type} {enc : TypeId × Value → H} {P : Program} (hl : laidOutB P = true) {W W' : World} (hf : Sv.Frm W W') {sp : Nat → Bool} : ∀ {ts : List TypeId} {vs : List Value} {ds : List (DataW H)} {ps : List MemPlace},
    (∀ t ∈ ts, P.readableRec t = true ∧ t < P.types.size) → DataW.TrodAll enc P W 0 (fun _ => true) true ts vs ds ps → (∀ p ∈ ps, p.block < W.heap.size) → (∀ p ∈ ps, sp p.block = true) → DataW.TrodAll enc P W' 0 sp true ts vs ds ps
  | [], [], [], _, _, h, _, _ => h
  | t :: ts, v :: vs, d :: ds, _, ht, ⟨p, q, h1, h2, e⟩, hlt, hs => by
    subst e
    refine ⟨p, q, ?_, ?_, rfl⟩
    · obtain ⟨hr, hrow⟩ := ht t List.mem_cons_self
      exact WideElems.Trod_stays hl hr hrow h1 (fun x hx => RowKit.Below.same hf (hlt x (List.mem_append_left _ hx))) fun x hx => hs x (List.mem_append_left _ hx)
    · exact trodAll_frm hl hf (fun t ht' => ht t (List.mem_cons_of_mem _ ht')) h2 (fun x hx => hlt x (List.mem_append_right _ hx)) fun x hx => hs x (List.mem_append_right _ hx)
theorem law_ends {H : Type} {enc : TypeId × Value → H} {P : Program} {f : Func} {s : ChangeSpec} {W W' : World} {args : Array Value} {ds gs : List (DataW H)} {before : List MemPlace} {tb : TypeId}
    (hl : laidOutB P = true) (hT : ∀ t ∈ f.params.toList, P.readableRec t = true ∧ t < P.types.size) (hv : s.vars = []) (hrt : f.resultTypes = #[tb]) (hb : P.underlying tb = some .bool)
    (hW : DataW.Whole enc P f.params.toList s.vars false W args.toList ds gs before) (hfn : s.fn H (ds ++ gs) = { results := [.lit (.bool true)], args := ds ++ gs }) (hg : Frm W W') :
    s.post enc P f false true false false W args (.bool true) W' := by
  have hW' := hW
  have hlt := hW.lt
  obtain ⟨p, q, hA, hV, rfl, _, _⟩ := hW
  rw [hv] at hV
  obtain ⟨rfl, rfl⟩ := trodVars_none hV
  have hrl : (Value.bool true).resultList f.resultTypes.size = [.bool true] := by rw [hrt]; rfl
  simp only [List.append_nil] at hlt hfn
  refine post_frm (pa := p) (pv := []) hW' (fun _ _ _ => ?_) (fun sp hsp => ?_) (fun _ _ => ?_) rfl hg (ok_one hrt rfl (okWide_bool_mk hb _))
  · rw [hrt]
    simp only [List.append_nil, hfn]
    exact trodAll_cons_mk (shut_bool hb _) trodAll_mk0
  · simp only [List.append_nil, hfn]
    exact trodAll_frm hl hg hT hA hlt (fun x hx => hsp x (by simpa using hx))
  · simp only [List.append_nil, hfn, hv]
    rfl
end Go.Sv
namespace Go.Proofs.YtcdogceabkpnmaaDoor
open Go Go.Sv Go.RowKit Go.ChangeShapes Go.WideShapes Go.Deep

theorem laidOut : laidOutB Tryd.prog = true := by kernel_rfl
theorem own : ownKnob Tryd.prog.godebug = none := by kernel_rfl

section
variable {H : Type} {P : Program} {enc : TypeId × Value → H} {w : World} {base : Nat} {spare : Nat → Bool} {held : Bool}
theorem bulkAll_eq : ∀ l : List (DataW H), Rows.uptoBulkAll l = (l.map Rows.uptoBulk).sum
  | [] => by simp [Rows.uptoBulkAll]
  | d :: l => by simp only [Rows.uptoBulkAll, List.map_cons, List.sum_cons, bulkAll_eq l]
theorem bulk_slice (es rs : List (DataW H)) : Rows.uptoBulk (.slice es rs) = (es.map Rows.uptoBulk).sum + (rs.map Rows.uptoBulk).sum + 1 := by simp only [Rows.uptoBulk, bulkAll_eq]
theorem bulk_agg (es : List (DataW H)) : Rows.uptoBulk (.agg es) = (es.map Rows.uptoBulk).sum + 1 := by simp only [Rows.uptoBulk, bulkAll_eq]
theorem bulk_nil : Rows.uptoBulk (.nil : DataW H) = 1 := by simp only [Rows.uptoBulk]
theorem bulk_str (l : List UInt8) : Rows.uptoBulk (.lit (.string l) : DataW H) = l.length + 1 := by simp only [Rows.uptoBulk]
/-- a slice of records: what they are, where they lie, and what they hold together -/
theorem open_recs {t e : TypeId} {fuel : Nat} {cs : List Value} {x : DataW H × List MemPlace} {α : Type} (cells : α → List Value) (wt : α → Nat) (Q : α → Prop) (ht : P.underlying t = some (.slice e))
    (h : DataW.trod enc P w base spare held fuel t cs = some x)
    (hrec : ∀ k cs' y, cs'.length = P.cellsOf e → DataW.trod enc P w base spare held k e cs' = some y → ∃ r, cs' = cells r ∧ Q r ∧ wt r ≤ Rows.uptoBulk y.1) :
    ∃ (p : Option Addr) (c : Nat) (rs : List α), cs = [.slice p rs.length c] ∧ rs.length ≤ c ∧ c ≤ maxLen ∧ Im [] w p (rs.flatMap cells) ∧ (∀ r ∈ rs, Q r) ∧ (rs.map wt).sum + 1 ≤ Rows.uptoBulk x.1 := by
  rcases open_slice ht h with ⟨rfl, rfl⟩ | ⟨a, len, cap, m, n, D, Pl, rfl, _, hl, hm, hmm, rfl, hi⟩
  · exact ⟨none, 0, [], rfl, Nat.le_refl _, Nat.zero_le _, .inl rfl, by simp, by simp [bulk_nil]⟩
  · have hlm : len ≤ m := by rw [hmm]; split <;> omega
    have key : ∀ n : Nat, n ≤ len → ∃ rs : List α, rs.length = n ∧ rs.flatMap cells = (List.range n).flatMap (fun i => (w.cells? base (a.add (i * P.cellsOf e)) (P.cellsOf e)).getD []) ∧ (∀ r ∈ rs, Q r) ∧ (rs.map wt).sum ≤ ((List.range n).map fun i => Rows.uptoBulk (D i)).sum := by
      intro n
      induction n with
      | zero => intro _; exact ⟨[], rfl, rfl, by simp, by simp⟩
      | succ n ih =>
        intro hn
        obtain ⟨rs, h1, h2, h3, h4⟩ := ih (by omega)
        obtain ⟨cs', h5, h6⟩ := hi n (by omega)
        obtain ⟨_, hcl, _⟩ := World.cells?_some h5
        obtain ⟨r, h7, h8, h9⟩ := hrec _ _ _ hcl h6
        refine ⟨rs ++ [r], by simp [h1], ?_, ?_, ?_⟩
        · rw [List.range_succ, List.flatMap_append, List.flatMap_append, h2]
          simp [h5, h7]
        · intro x hx
          rcases List.mem_append.1 hx with hx | hx
          · exact h3 x hx
          · rw [List.mem_singleton.1 hx]; exact h8
        · rw [List.range_succ, List.map_append, List.map_append, List.sum_append, List.sum_append]
          simp only [List.map_cons, List.map_nil, List.sum_cons, List.sum_nil]
          dsimp only at h9
          omega
    obtain ⟨rs, h1, h2, h3, h4⟩ := key len (Nat.le_refl _)
    refine ⟨some a, cap, rs, by rw [h1], by omega, hm, ?_, h3, ?_⟩
    · rw [h2]
      have hsr := seg_range (w := w) (a := a) (k := P.cellsOf e) (fun i => (w.cells? base (a.add (i * P.cellsOf e)) (P.cellsOf e)).getD []) len (fun i hil => by
        obtain ⟨cs', h5, _⟩ := hi i (by omega)
        obtain ⟨_, hcl, hat⟩ := World.cells?_some h5
        rw [h5]
        exact ⟨hcl, fun j hj => hat j (by simpa [hcl] using hj)⟩)
      generalize (List.range len).flatMap (fun i => (w.cells? base (a.add (i * P.cellsOf e)) (P.cellsOf e)).getD []) = L at *
      cases L with
      | nil => exact .inl rfl
      | cons v L =>
        refine .inr ⟨a, rfl, hsr.1, ?_, by simp⟩
        have := hsr.1 0 (by simp)
        have h0 : w.cell? (a.add 0) = some v := this
        have := cell_lt h0
        rwa [add_block] at this
    · rw [bulk_slice, List.map_map]
      have : ((List.range len).map (Rows.uptoBulk ∘ D)).sum = ((List.range len).map fun i => Rows.uptoBulk (D i)).sum := rfl
      omega
theorem str_of (s : ByteArray) : Value.string s = str s.data.toList := by cases s; rfl
/-- a cell that is a text -/
theorem open_strc {t : TypeId} {fuel : Nat} {cs : List Value} {x : DataW H × List MemPlace} (ht : P.underlying t = some .string) (h : DataW.trod enc P w base spare held fuel t cs = some x) : ∃ l : List UInt8, cs = [str l] ∧ Rows.uptoBulk x.1 = l.length + 1 := by
  obtain ⟨s, rfl, rfl, _⟩ := DataW.trod_string ht h
  exact ⟨s.data.toList, by rw [str_of], bulk_str _⟩
theorem small_le {ds : List (DataW H)} (hk : Rows.uptoSmall H ds = true) : (ds.map Rows.uptoBulk).sum ≤ 1048576 := by
  have := of_decide_eq_true hk
  rwa [bulkAll_eq] at this
end
end Go.Proofs.YtcdogceabkpnmaaDoor

/-
  Readings of attributes: what lies in memory.
-/
set_option linter.unusedSimpArgs false
set_option linter.unusedVariables false
set_option linter.unnecessarySimpa false
namespace Go.Proofs.YtcdogceabkpnmaaDoor
open Go Go.Sv Go.RowKit Go.ChangeShapes Go.WideShapes Go.Deep

theorem c_str : Tryd.prog.cellsOf 9 = 1 := by kernel_rfl
theorem c_attrs : Tryd.prog.cellsOf 31 = 1 := by kernel_rfl
theorem c_attr : Tryd.prog.cellsOf 53 = 2 := by kernel_rfl
section
variable {H : Type} {enc : TypeId × Value → H} {w : World} {base : Nat} {spare : Nat → Bool} {held : Bool}
set_option maxRecDepth 100000 in
theorem open_at {fuel : Nat} {cs : List Value} {x : DataW H × List MemPlace} (h : DataW.trod enc Tryd.prog w base spare held fuel 53 cs = some x) : ∃ r : At, cs = r.cells ∧ True ∧ r.wt ≤ Rows.uptoBulk x.1 := by
  obtain ⟨xs, n, _, rfl, hl, hlen, hf⟩ := DataW.trod_struct Tryd.underlying53 h
  rw [c_attr] at hl
  have f0 := hf 0 _ rfl
  have f1 := hf 1 _ rfl
  clear hf h
  match cs, hl with
  | [c0, c1], _ =>
    match xs, hlen with
    | [y0, y1], _ =>
      simp only [c_str, List.drop_zero, List.drop_succ_cons, List.take_succ_cons, List.take_zero, List.getElem?_cons_zero, List.getElem?_cons_succ] at f0 f1
      obtain ⟨l0, e0, b0⟩ := open_strc Tryd.underlying9 f0
      obtain ⟨l1, e1, b1⟩ := open_strc Tryd.underlying9 f1
      injection e0 with e0
      injection e1 with e1
      subst e0 e1
      refine ⟨⟨l0, l1⟩, rfl, trivial, ?_⟩
      rw [bulk_agg]
      simp only [List.map_cons, List.map_nil, List.sum_cons, List.sum_nil, b0, b1, At.wt]
      omega
end
end Go.Proofs.YtcdogceabkpnmaaDoor

/-
  Readings of events: what lies in memory.
-/
set_option linter.unusedSimpArgs false
set_option linter.unusedVariables false
set_option linter.unnecessarySimpa false
namespace Go.Proofs.YtcdogceabkpnmaaDoor
open Go Go.Sv Go.RowKit Go.ChangeShapes Go.WideShapes Go.Deep
section
variable {H : Type} {enc : TypeId × Value → H} {w : World} {base : Nat} {spare : Nat → Bool} {held : Bool}
end
end Go.Proofs.YtcdogceabkpnmaaDoor

/-
  Readings of lists of trees.
-/
set_option linter.unusedSimpArgs false
set_option linter.unusedVariables false
set_option linter.unnecessarySimpa false
namespace Go.Proofs.YtcdogceabkpnmaaDoor
open Go Go.Sv Go.RowKit Go.ChangeShapes Go.WideShapes Go.Deep
section
variable {P : Program} {H : Type} {enc : TypeId × Value → H} {w : World} {base : Nat} {spare : Nat → Bool} {held : Bool}
theorem open_recs2 {t e : TypeId} {fuel : Nat} {cs : List Value} {x : DataW H × List MemPlace} {α : Type} (cells : α → List Value) (wt : α → Nat) (Q : α → Prop) (ht : P.underlying t = some (.slice e))
    (h : DataW.trod enc P w base spare held fuel t cs = some x)
    (hrec : ∀ k cs' y, Rows.uptoBulk y.1 < Rows.uptoBulk x.1 → cs'.length = P.cellsOf e → DataW.trod enc P w base spare held k e cs' = some y → ∃ r, cs' = cells r ∧ Q r ∧ wt r ≤ Rows.uptoBulk y.1) :
    ∃ (p : Option Addr) (c : Nat) (rs : List α), cs = [.slice p rs.length c] ∧ rs.length ≤ c ∧ c ≤ maxLen ∧ Im [] w p (rs.flatMap cells) ∧ (∀ r ∈ rs, Q r) ∧ (rs.map wt).sum + 1 ≤ Rows.uptoBulk x.1 := by
  rcases open_slice ht h with ⟨rfl, rfl⟩ | ⟨a, len, cap, m, n, D, Pl, rfl, _, hl, hm, hmm, rfl, hi⟩
  · exact ⟨none, 0, [], rfl, Nat.le_refl _, Nat.zero_le _, .inl rfl, by simp, by simp [bulk_nil]⟩
  · have hlm : len ≤ m := by rw [hmm]; split <;> omega
    have key : ∀ n : Nat, n ≤ len → ∃ rs : List α, rs.length = n ∧ rs.flatMap cells = (List.range n).flatMap (fun i => (w.cells? base (a.add (i * P.cellsOf e)) (P.cellsOf e)).getD []) ∧ (∀ r ∈ rs, Q r) ∧ (rs.map wt).sum ≤ ((List.range n).map fun i => Rows.uptoBulk (D i)).sum := by
      intro n
      induction n with
      | zero => intro _; exact ⟨[], rfl, rfl, by simp, by simp⟩
      | succ n ih =>
        intro hn
        obtain ⟨rs, h1, h2, h3, h4⟩ := ih (by omega)
        obtain ⟨cs', h5, h6⟩ := hi n (by omega)
        obtain ⟨_, hcl, _⟩ := World.cells?_some h5
        have hbu : Rows.uptoBulk (D n) < Rows.uptoBulk (DataW.slice ((List.range len).map D) ((List.range (m - len)).map fun j => D (len + j))) := by
          rw [bulk_slice, List.map_map]
          have := sum_mem (Rows.uptoBulk ∘ D) (List.range len) (List.mem_range.2 (show n < len by omega))
          simp only [Function.comp] at this ⊢
          omega
        obtain ⟨r, h7, h8, h9⟩ := hrec _ _ _ hbu hcl h6
        refine ⟨rs ++ [r], by simp [h1], ?_, ?_, ?_⟩
        · rw [List.range_succ, List.flatMap_append, List.flatMap_append, h2]
          simp [h5, h7]
        · intro x hx
          rcases List.mem_append.1 hx with hx | hx
          · exact h3 x hx
          · rw [List.mem_singleton.1 hx]; exact h8
        · rw [List.range_succ, List.map_append, List.map_append, List.sum_append, List.sum_append]
          simp only [List.map_cons, List.map_nil, List.sum_cons, List.sum_nil]
          dsimp only at h9
          omega
    obtain ⟨rs, h1, h2, h3, h4⟩ := key len (Nat.le_refl _)
    refine ⟨some a, cap, rs, by rw [h1], by omega, hm, ?_, h3, ?_⟩
    · rw [h2]
      have hsr := seg_range (w := w) (a := a) (k := P.cellsOf e) (fun i => (w.cells? base (a.add (i * P.cellsOf e)) (P.cellsOf e)).getD []) len (fun i hil => by
        obtain ⟨cs', h5, _⟩ := hi i (by omega)
        obtain ⟨_, hcl, hat⟩ := World.cells?_some h5
        rw [h5]
        exact ⟨hcl, fun j hj => hat j (by simpa [hcl] using hj)⟩)
      generalize (List.range len).flatMap (fun i => (w.cells? base (a.add (i * P.cellsOf e)) (P.cellsOf e)).getD []) = L at *
      cases L with
      | nil => exact .inl rfl
      | cons v L =>
        refine .inr ⟨a, rfl, hsr.1, ?_, by simp⟩
        have := hsr.1 0 (by simp)
        have h0 : w.cell? (a.add 0) = some v := this
        have := cell_lt h0
        rwa [add_block] at this
    · rw [bulk_slice, List.map_map]
      have : ((List.range len).map (Rows.uptoBulk ∘ D)).sum = ((List.range len).map fun i => Rows.uptoBulk (D i)).sum := rfl
      omega
end
def ndw (r : NdM) : Nat := 4 + r.name.length + r.text.length + (r.attrs.map At.wt).sum + r.kids.wt
theorem wtOf (L : List NdM) : (FoM.of L).wt = (L.map ndw).sum := by
  induction L with
  | nil => rfl
  | cons m L ih => simp only [FoM.of, FoM.wt, ih, List.map_cons, List.sum_cons, ndw]
theorem ndsOf {w : World} {L : List NdM} (h : ∀ r ∈ L, Im [] w r.ap (r.attrs.flatMap At.cells) ∧ Tre w r.kp r.kids) : Nds w (FoM.of L) := by
  induction L with
  | nil => trivial
  | cons m L ih =>
    have h1 := h m List.mem_cons_self
    exact ⟨h1.1, h1.2.im, h1.2.nds, ih fun r hr => h r (List.mem_cons_of_mem _ hr)⟩
theorem lenOf (L : List NdM) : (FoM.of L).len = L.length := by rw [FoM.len, FoM.list_of]
theorem c_node : Tryd.prog.cellsOf 33 = 4 := by kernel_rfl
theorem c_nodes : Tryd.prog.cellsOf 22 = 1 := by kernel_rfl
section
variable {H : Type} {enc : TypeId × Value → H} {w : World} {base : Nat} {spare : Nat → Bool} {held : Bool}
set_option maxRecDepth 100000 in
theorem open_nd : ∀ (B fuel : Nat) (cs : List Value) (x : DataW H × List MemPlace), Rows.uptoBulk x.1 ≤ B → DataW.trod enc Tryd.prog w base spare held fuel 33 cs = some x → ∃ r : NdM, cs = r.cells ∧ (Im [] w r.ap (r.attrs.flatMap At.cells) ∧ Tre w r.kp r.kids) ∧ 4 + r.name.length + r.text.length + (r.attrs.map At.wt).sum + r.kids.wt ≤ Rows.uptoBulk x.1 := by
  intro B
  induction B with
  | zero =>
    intro fuel cs x hB h
    obtain ⟨xs, n, _, rfl, hl, hlen, hf⟩ := DataW.trod_struct Tryd.underlying33 h
    rw [bulk_agg] at hB; omega
  | succ B ih =>
    intro fuel cs x hB h
    obtain ⟨xs, n, _, rfl, hl, hlen, hf⟩ := DataW.trod_struct Tryd.underlying33 h
    rw [c_node] at hl
    have f0 := hf 0 _ rfl
    have f1 := hf 1 _ rfl
    have f2 := hf 2 _ rfl
    have f3 := hf 3 _ rfl
    clear hf h
    match cs, hl with
    | [c0, c1, c2, c3], _ =>
      match xs, hlen with
      | [y0, y1, y2, y3], _ =>
        simp only [c_str, c_nodes, c_attrs, List.drop_zero, List.drop_succ_cons, List.take_succ_cons, List.take_zero, List.getElem?_cons_zero, List.getElem?_cons_succ] at f0 f1 f2 f3
        simp only [bulk_agg, List.map_cons, List.map_nil, List.sum_cons, List.sum_nil] at hB ⊢
        obtain ⟨l0, e0, b0⟩ := open_strc Tryd.underlying9 f0
        obtain ⟨l1, e1, b1⟩ := open_strc Tryd.underlying9 f1
        obtain ⟨p, c, es, e2, _, _, him, _, b2⟩ := open_recs At.cells At.wt (fun _ => True) Tryd.underlying31 f2 (fun k cs' y _ hy => open_at hy)
        obtain ⟨kp, kc, L, e3, _, _, hkim, hkq, b3⟩ := open_recs2 NdM.cells (fun r => 4 + r.name.length + r.text.length + (r.attrs.map At.wt).sum + r.kids.wt) (fun r => Im [] w r.ap (r.attrs.flatMap At.cells) ∧ Tre w r.kp r.kids) Tryd.underlying22 f3 (fun k cs' y hbu _ hy => ih k cs' y (by omega) hy)
        injection e0 with e0; injection e1 with e1; injection e2 with e2; injection e3 with e3
        subst e0 e1 e2 e3
        refine ⟨⟨l0, l1, es, p, c, .of L, kp, kc⟩, ?_, ⟨him, ?_, ndsOf hkq⟩, ?_⟩
        · simp only [NdM.cells, lenOf]
        · dsimp only; rw [FoM.list_of]; exact hkim
        · dsimp only
          rw [wtOf]
          have hb3 : (L.map ndw).sum + 1 ≤ Rows.uptoBulk y3.1 := b3
          omega
set_option maxRecDepth 100000 in
/-- an argument []api.Node -/
theorem open_nodes {v : Value} {d : DataW H} {ps : List MemPlace} {r : Reach} {b0 : Nat} (hv : Value.okWide Tryd.prog w r b0 22 v) (h : DataW.Trod enc Tryd.prog w base spare held 22 v d ps) :
    ∃ (p : Option Addr) (c : Nat) (f : FoM), v = .slice p f.len c ∧ f.len ≤ c ∧ Tre w p f ∧ f.wt + 1 ≤ Rows.uptoBulk d := by
  obtain ⟨a, n, cc, rfl⟩ := okWide_slice Tryd.underlying22 hv
  obtain ⟨fuel, hf⟩ := h
  obtain ⟨p, c, L, e, hc, _, him, hQ, hw⟩ := open_recs2 NdM.cells ndw (fun r => Im [] w r.ap (r.attrs.flatMap At.cells) ∧ Tre w r.kp r.kids) Tryd.underlying22 hf (fun k cs' y _ _ hy => open_nd _ k cs' y (Nat.le_refl _) hy)
  have e' : Value.slice a n cc = .slice p L.length c := by simpa [Value.cells] using e
  exact ⟨p, c, .of L, by rw [e', lenOf], by rw [lenOf]; exact hc, ⟨by rw [FoM.list_of]; exact him, ndsOf hQ⟩, by rw [wtOf]; exact hw⟩
end
end Go.Proofs.YtcdogceabkpnmaaDoor

/-
  Readings of arguments of one cell: texts.
-/
set_option linter.unusedSimpArgs false
set_option linter.unusedVariables false
set_option linter.unnecessarySimpa false
namespace Go.Proofs.YtcdogceabkpnmaaDoor
open Go Go.Sv Go.RowKit Go.ChangeShapes Go.WideShapes Go.Deep
section
variable {H : Type} {enc : TypeId × Value → H} {w : World} {base : Nat} {spare : Nat → Bool} {held : Bool}
set_option maxRecDepth 100000 in
theorem open_str1 {v : Value} {d : DataW H} {ps : List MemPlace} {r : Reach} {b0 : Nat} (hv : Value.okWide Tryd.prog w r b0 9 v) (h : DataW.Trod enc Tryd.prog w base spare held 9 v d ps) :
    ∃ l : List UInt8, v = str l ∧ l.length + 1 ≤ Rows.uptoBulk d := by
  obtain ⟨s, rfl⟩ := okWide_string Tryd.underlying9 hv
  obtain ⟨fuel, hf⟩ := h
  obtain ⟨l, e, hw⟩ := open_strc Tryd.underlying9 hf
  dsimp only at hw
  exact ⟨l, by simpa [Value.cells] using e, by omega⟩
end
end Go.Proofs.YtcdogceabkpnmaaDoor

/-
  What a row's list says of the table of blanks; a world for the witness.
-/
set_option linter.unusedSimpArgs false
set_option linter.unusedVariables false
set_option linter.unnecessarySimpa false
namespace Go.Proofs.YtcdogceabkpnmaaDoor
open Go Go.Sv Go.RowKit Go.ChangeShapes Go.WideShapes Go.ChangeAt

theorem laid_at {P : Program} {W : World} {name : String} {d : DataW Unit} : ∀ {laid : List (String × DataW Unit)} {ps : List MemPlace}, DataW.LaidVars P W laid ps → (name, d) ∈ laid →
    ∃ g t cs fuel p, P.globalNamed name = some g ∧ (P.globals[g]?).map (·.type) = some t ∧ W.var? P name = some cs ∧ DataW.trod (fun _ => ()) P W 0 (fun _ => true) false fuel t cs.toList = some (d, p)
  | [], _, _, hm => by cases hm
  | x :: laid, ps, h, hm => by
    obtain ⟨g', t', cs, fuel, p, q, hg', ht', hvar, hd, hr, _⟩ := h
    rcases List.mem_cons.1 hm with rfl | hm
    · exact ⟨g', t', cs, fuel, p, hg', ht', hvar, hd⟩
    · exact laid_at hr hm
theorem gAscType : (Tryd.prog.globals[0]?).map (·.type) = some 161 := by kernel_rfl
set_option maxRecDepth 100000 in
theorem asc_of {W : World} {laid : List (String × DataW Unit)} (h : laidMet Tryd.prog laid W) (hm : ("strings.asciiSpace", Rows.laid_strings_asciiSpace) ∈ laid) : Asc W := by
  obtain ⟨ps, hL, _⟩ := h
  obtain ⟨g', t', cs, fuel, p, hg', ht', hvar, hd⟩ := laid_at hL hm
  obtain rfl := Option.some.inj (gAsc.symm.trans hg')
  obtain rfl := Option.some.inj (gAscType.symm.trans ht')
  have e : (Rows.laid_strings_asciiSpace : DataW Unit) = Lib.tabData .u8 Lib.asciiSpaceTab := by kernel_rfl
  rw [e] at hd
  unfold Asc Lib.TabIs
  rw [hvar, ← Lib.cells_of_tab Tryd.underlying161 Tryd.underlying5 (by kernel_rfl) (by kernel_rfl) hd]
/-- a world for the witness: the variables hold what their initialisers lay -/
noncomputable def ascHeap (h : Array Obj) : Array Obj :=
  (((h.modify 0 fun | .cells _ t f => .cells (Lib.asciiSpaceTab.map fun z => Value.int .u8 z).toArray t f | o => o).modify 1 fun
    | .cells _ t f => .cells #[.pointer (some ⟨h.size, 0, none⟩)] t f | o => o).push (.cells #[.slice (some ⟨h.size + 1, 0, none⟩) 7 7, .slice none 0 0, .int .i64 2] 172 (0, 0))).push
    (.cells (([9, 13, 1, 32, 133, 101, 160, 5760, 5600, 8192, 8202, 1, 8232, 8233, 1, 8239, 8287, 48, 12288, 12288, 1] : List Int).map fun z => Value.int .u16 z).toArray 175 (0, 0))
noncomputable def ascWorld (os : Os) : World := { World.holding Tryd.prog os ⟨#[], #[], []⟩ with heap := ascHeap (World.holding Tryd.prog os ⟨#[], #[], []⟩).heap }
end Go.Proofs.YtcdogceabkpnmaaDoor

