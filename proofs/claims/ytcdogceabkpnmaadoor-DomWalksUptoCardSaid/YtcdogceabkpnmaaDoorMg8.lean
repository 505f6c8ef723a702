/-
  Our texts SvCtx, SvDr, joined.
-/
import Derived.Test.YtcdogceabkpnmaaDoorMg7
/-
  Loops and cuts where what is deferred changes; a result that lies in a cell.
-/
set_option linter.unusedSimpArgs false
set_option linter.unusedVariables false
set_option linter.unnecessarySimpa false
namespace Go.Sv
open Go Go.RowKit
section
variable {P : Program} {n : Nat} {Q : Exit → Ctx → Env → World → Prop} {σ : Env} {w : World} {c : Code}
/-- a cut behind a piece of code that stands in a block, where things are deferred -/
theorem wcutk {i : Nat} {ds : Ctx} {K : Ctx → Env → World → Prop} {X : Type} (sl : X → List (Nat × Value)) (cx : X → List Deferred) (I : X → World → Prop)
    (ha : WC P n ds c (blk i (thn (fun ds' σ w => ∃ x, ds' = ⟨cx x, none⟩ ∧ Has σ (sl x) ∧ I x w) Q)) σ w) (hb : ∀ x w (ρ : GE), I x w → K ⟨cx x, none⟩ (real (updGL ρ (sl x))) w) : WC P n ds c (blk i (thn K Q)) σ w := by
  refine WC_mono ha ?_
  have hn : ∀ c' σ' w', thn (fun ds' σ w => ∃ x, ds' = ⟨cx x, none⟩ ∧ Has σ (sl x) ∧ I x w) Q .normal c' σ' w' → thn K Q .normal c' σ' w' := by
    intro c' σ' w' h
    unfold thn at h ⊢
    obtain ⟨x, rfl, h1, h2⟩ := h
    have := hb x w' (lif σ') h2
    rw [← real_updL, updL_has h1] at this
    exact this
  intro e c' σ' w' h
  unfold blk at h ⊢
  cases e with
  | normal => exact hn _ _ _ h
  | exit j =>
    dsimp only at h ⊢
    cases hj : Nat.beq j i with
    | true => rw [hj] at h; exact hn _ _ _ h
    | false => rw [hj] at h; unfold thn at h ⊢; exact h
  | _ => unfold thn at h ⊢; exact h
end
/-- a result of one cell that lies in a cell -/
theorem fpc1 {P : Program} {n : Nat} {fn : Func} {R : Value → World → Prop} {σ : Env} {w : World} {tt : Nat} {ty : TypeId} {ex : Exit} {b : Nat} {v : Value} {ds : Ctx} (hex : ex = .ret ∨ ex = .normal) (hr : fn.results = #[.cell tt ty]) (ht : Nat.blt tt n = true) (hp : σ tt = .pointer (pb b)) (ho : Own w b [v])
    [ha : Agg P ty false] (h : R v w) (hd : ds.ds = [] := by rfl) : fpost P n fn R ex ds σ w := by
  refine fp_of hex hd ?_ h
  have hp' : (act n ds.ds σ).tmps.getD tt undef = .pointer (pb b) := by rw [act_getD ht]; exact hp
  have hp2 : (act n ds.ds σ).tmps[tt]?.getD undef = .pointer (pb b) := by simpa using hp'
  obtain ⟨T, ho⟩ := ho
  have hc : w.cell? ⟨b, 0, none⟩ = some v := by rw [cell_of_row w b 0 _ _ _ ho]; rfl
  simp [results, hr, hp2, asAddr, pb, loadVar, run_isAgg (P := P) (t := ty), hc]
end Go.Sv

/-
  Chapter 21: DomMerged walked.
-/
set_option linter.unusedSimpArgs false
set_option linter.unusedVariables false
set_option linter.unnecessarySimpa false
namespace Go.Proofs.YtcdogceabkpnmaaDoor
open Go Go.Sv Go.RowKit
theorem wlk_ne (f : Fo) : ∀ w i, ∀ x ∈ f.wlk w i, 0 < x.1.length := by
  induction f with
  | nil => intro w i x hx; cases hx
  | cons n t es ks r ih1 ih2 =>
    intro w i x hx
    simp only [Fo.wlk, List.mem_cons, List.mem_append] at hx
    rcases hx with rfl | hx | hx
    · simp
    · split at hx
      · cases hx
      · exact ih1 _ _ x hx
    · exact ih2 _ _ x hx
theorem merged_fo {L : List NdM} {f : FoM} (h : L.map NdM.nd = f.fo.merge []) : (FoM.of L).fo = Fo.of (f.fo.merge []) := by rw [fo_of, h]
theorem merged_txt (f : Fo) : (Fo.of (f.merge [])).txt = f.txt := by
  have := merge_txt f []
  rw [txt_of]; simpa using this
theorem merged_el (f : Fo) : (Fo.of (f.merge [])).elems = f.elems := by
  have := merge_el f []
  rw [el_of]; simpa using this
theorem merged_dp (f : Fo) : (Fo.of (f.merge [])).depth = f.depth := by
  have := merge_dN f []
  rw [dN_of, this]; simp [dN]
set_option maxHeartbeats 8000000 in
theorem domMerged_ok (f : FoM) (p : Option Addr) (c : Nat) (hw : f.wt ≤ 1048576) (w : World) (hA : Asc w) (hT : Tre w p f) : PureC Tryd.prog 8 #[.slice p f.len c] w (.bool true) := by
  have hS := Sep.start w
  refine enter (l := [.slice p f.len c]) Tryd.func8 rfl Tryd.ntmps8 (by kernel_rfl) rfl ?_
  refine sgo ?_
  refine wlcall (domMerge_ok (f.size + 1) f p c (Nat.lt_succ_self _) hw w w _ hS hT) ?_
  rintro _ w1 ⟨qm, cm, M, rfl, hM, -, hS⟩
  have hMw := Nat.le_trans (merged_wt hM) hw
  have hMf := merged_fo hM
  have hcw := cnt_wt f
  have hcm := cnt_wt (FoM.of M)
  have hdw := depth_wt f
  have htw := txt_wt f
  refine sgo ?_
  refine wlpure (domCount_ok f p c hw _ (hT.frm hS.frm)) fun w2 hf2 => ?_
  replace hS := hS.grow hf2
  refine sgo ?_
  have hC := domCount_ok (FoM.of M) qm cm hMw w2 (Sep.treL hS 0 1 rfl rfl)
  rw [len_of, hMf, merged_el] at hC
  refine wlpure hC fun w3 hf3 => ?_
  clear hC
  replace hS := hS.grow hf3
  refine sgo ?_
  have hW := domWalk_ok (FoM.of M) qm cm hMw w w3 _ hS (Sep.treL hS 0 1 rfl rfl)
  rw [len_of] at hW
  refine wlcall hW ?_
  clear hW
  rintro _ w4 ⟨bW, q, cc, L, rfl, hL, -, hS⟩
  rw [FoM.list_of] at hL
  have hLf : (FoM.of L).fo = Fo.of (f.fo.merge []) := (fo_same hL).trans hMf
  have hLw : (FoM.of L).wt ≤ 1048576 := by rw [wt_fo, hLf, ← hMf, ← wt_fo]; exact hMw
  rw [hMf] at hcm
  rw [merged_el] at hcm
  refine sgo ?_
  refine salloc hS fun b8 w5 hS => ?_
  refine sgo ?_
  refine sst_int hS 0 fun w6 hS => ?_
  replace hS : Sep w w6 [pOwn b8 [int ((0 : Nat) : Int)], pOwn bW [.slice q L.length cc], pRow 4 q L.length cc (L.flatMap NdM.cells), pMany (L.flatMap NdM.rows), pRow 4 qm M.length cm (M.flatMap NdM.cells), pMany (M.flatMap NdM.rows)] := hS
  refine sgo ?_
  refine wl ?_ (y_fnil Tryd.underlying28 rfl rfl)
  refine sgo ?_
  have hcap := (hS.row 2 rfl).le_cap.1
  have hfit : (FoM.of L).fit := fit_rows (by rw [rows_of]; exact hS.many 3 rfl)
  have hLs : (FoM.of L).size ≤ 4000000 := by have := size_wt (FoM.of L); omega
  have hlen := wlk_len (Fo.of (f.fo.merge []))
  rw [merged_el] at hlen
  refine wcutk (X := Nat × Nat) (fun x => [(0, .slice p f.len c), (3, .slice qm M.length cm), (4, int f.fo.elems), (6, int f.fo.elems), (7, int (Fo.of (f.fo.merge [])).texts), (8, ptrAt (pb b8) 0)]) (fun x => colls [x.2])
    (fun x wr => Sep w wr [pDef x.2, pOwn b8 [int ((Fo.of (f.fo.merge [])).wlk [] 0).length], pRow 4 qm M.length cm (M.flatMap NdM.cells), pMany (M.flatMap NdM.rows)]) ?_ ?_
  · refine wcrangef (cap := [ptrAt (pb bW) 0]) rfl rfl ?_
    intro fn lr D w8 hD hlr hne hf8 hLo hN
    obtain ⟨rc, hrc, hLo⟩ := loop_fam hLo
    replace hS := hS.loop hf8 hLo hN hlr hD hne
    have hfeet := hS.feet_lt
    have hsz := hS.frm.size
    have hWe : (FoM.of L).fo.wlk [] 0 = (Fo.of (f.fo.merge [])).wlk [] 0 := by rw [hLf]
    have h1 := walk1_ok21 lr w8.heap.size bW L q cc hLw hcap hfit hLs
      (fun i w' => Sep w w' (pLoop lr (rc .ready none) :: pDef D :: [pOwn b8 [int i], pOwn bW [.slice q L.length cc], pRow 4 q L.length cc (L.flatMap NdM.cells), pMany (L.flatMap NdM.rows), pRow 4 qm M.length cm (M.flatMap NdM.cells), pMany (M.flatMap NdM.rows)]))
      (fun _ _ => False) (fun i w1 w2 h h' => h.same h' hsz hfeet) (fun _ _ _ h _ => h.elim) (fun i w' h => ⟨h.own 3 rfl, Sep.treL h 4 5 rfl rfl⟩) ?_ w8 rfl hS
    · refine CallsR.mono h1 ?_
      rw [hWe]
      rintro v w4 hor
      have hS := hor.resolve_right fun ⟨_, _, h⟩ => h
      refine ⟨.ready, none, by simp, by rw [← hrc]; exact hS.loopAt 0 rfl, fun w5 hl5 => aft_none ?_⟩
      replace hS := Sep.lose hS hl5
      exact blk_normal (thn_normal ⟨(0, D), rfl, ⟨rfl, rfl, rfl, rfl, rfl, rfl, trivial⟩, hS.sel 7 [0, 1, 5, 6]⟩)
    · subst hrc
      intro i w1 way nd h hx q2 c2 m2 w' hm2 hS2
      rw [hWe] at hx
      obtain ⟨kp, hkp, hk⟩ := h.keep1
      have hS := hk.seq hS2
      have hlt : i < ((Fo.of (f.fo.merge [])).wlk [] 0).length := (List.getElem?_eq_some_iff.1 hx).1
      have hwy := wlk_ne _ _ _ _ (List.mem_of_getElem? hx)
      obtain ⟨a2, rfl⟩ := (hS2.row 0 rfl).sg.some (by rw [ints_len]; exact hwy)
      have hlo := hS2.low _ (List.Mem.head _) a2.block (List.Mem.head _)
      have hfin : ∀ {wz : World} {cz : List Plot} {y : Plot} {st : Loop}, Sep w wz (pRow 1 (some a2) way.length c2 (ints way) :: y :: kp :: pLoop lr st :: cz) → ∃ N, Le N w1 wz ∧ ∀ x ∈ N, x < w8.heap.size := by
        intro wz cz y st hz
        rw [hkp] at hz
        refine ⟨_, Sep.kept h hz (List.Mem.tail _ (List.Mem.tail _ (List.Mem.head _))) ?_, hfeet⟩
        have := hz.lt (List.Mem.head _) a2.block (List.Mem.head _)
        omega
      refine yld_of (hS.loopAt 3 rfl) rfl (by kernel_rfl) ?_
      refine sgo ?_
      refine ⟨hS.loopAt 3 rfl, fun w5 hl5 hL5 => ?_⟩
      obtain ⟨rb, hrb, hL5⟩ : ∃ rb : Loop, rb = _ ∧ LoopAt w5 lr rb := ⟨_, rfl, hL5⟩
      replace hS := hS.turnLoop 3 rfl hl5 hL5
      replace hS : Sep w w5 (pRow 1 (some a2) way.length c2 (ints way) :: pMany m2.rows :: kp :: pLoop lr rb :: pDef D :: [pOwn b8 [int i], pOwn bW [.slice q L.length cc], pRow 4 q L.length cc (L.flatMap NdM.cells), pMany (L.flatMap NdM.rows), pRow 4 qm M.length cm (M.flatMap NdM.cells), pMany (M.flatMap NdM.rows)]) := hS
      have hs5 : Sg w5 (pb b8) [int i] := (hS.own 5 rfl).sg
      refine sgo ?_
      refine sst_int hS 5 fun w7 hS => ?_
      have e1 : (i : Int) + 1 = ((i + 1 : Nat) : Int) := by omega
      replace hS : Sep w w7 (pRow 1 (some a2) way.length c2 (ints way) :: pMany m2.rows :: kp :: pLoop lr rb :: pDef D :: [pOwn b8 [int ((i + 1 : Nat) : Int)], pOwn bW [.slice q L.length cc], pRow 4 q L.length cc (L.flatMap NdM.cells), pMany (L.flatMap NdM.rows), pRow 4 qm M.length cm (M.flatMap NdM.cells), pMany (M.flatMap NdM.rows)]) := by rw [← e1]; exact hS
      refine sgo ?_
      subst hrb
      refine rnd_normal (hS.loopAt 3 rfl) fun w9 hl9 hL9 => ?_
      replace hS := hS.turnLoop 3 rfl hl9 hL9
      obtain ⟨N, g1, g2⟩ := hfin hS
      exact ⟨N, g1, g2, ((hS.drop 0 rfl).drop 0 rfl).drop 0 rfl⟩
  clear hS
  rintro ⟨i0, D⟩ w9 ρ2 hS
  dsimp only at *
  have hK := domMerge_ok ((FoM.of M).size + 1) (FoM.of M) qm cm (Nat.lt_succ_self _) hMw w w9 _ hS (Sep.treL hS 2 3 rfl rfl)
  rw [len_of, hMf, merge_twice] at hK
  have hs8 : Sg w9 (pb b8) [int ((Fo.of (f.fo.merge [])).wlk [] 0).length] := (hS.own 1 rfl).sg
  refine sgo ?_
  refine wlcall hK ?_
  clear hK hs8
  rintro _ w10 ⟨qk, ck, K, rfl, hK, -, hS⟩
  have hKw : (FoM.of K).wt ≤ 1048576 := by rw [wt_fo, fo_of, hK, ← hMf, ← wt_fo]; exact hMw
  refine sgo ?_
  have hE := domEqual_ok ((FoM.of K).size + 1) (FoM.of K) (FoM.of M) qk qm ck cm (Nat.lt_succ_self _) hKw hMw w10 (Sep.treL hS 0 1 rfl rfl) (Sep.treL hS 4 5 rfl rfl)
  rw [len_of, len_of, decide_eq_true (fo_same (hK.trans hM.symm))] at hE
  refine wlpure hE fun w11 hf11 => ?_
  clear hE
  replace hS := hS.grow hf11
  refine sgo ?_
  have hX := domText_ok (FoM.of M) qm cm hMw w11 (Sep.treL hS 4 5 rfl rfl)
  rw [len_of, hMf, merged_txt] at hX
  refine wlcallgp (vals := [.slice qm M.length cm]) (fun _ => hX) fun w12 hf12 => ?_
  clear hX
  replace hS := hS.grow hf12
  refine sgo ?_
  refine wlcallgp (vals := [.slice p f.len c]) (fun _ => domText_ok f p c hw _ (hT.frm hS.frm)) fun w13 hf13 => ?_
  replace hS := hS.grow hf13
  have hs8 : Sg w13 (pb b8) [int ((Fo.of (f.fo.merge [])).wlk [] 0).length] := (hS.own 3 rfl).sg
  refine sgo ?_
  have hX := domDepth_ok ((FoM.of M).size + 1) (FoM.of M) qm cm (Nat.lt_succ_self _) hMw w13 (Sep.treL hS 4 5 rfl rfl)
  rw [len_of, hMf, merged_dp] at hX
  refine wlcallgp (vals := [.slice qm M.length cm]) (fun _ => hX) fun w14 hf14 => ?_
  clear hX
  replace hS := hS.grow hf14
  refine sgo ?_
  refine wlcallgp (vals := [.slice p f.len c]) (fun _ => domDepth_ok (f.size + 1) f p c (Nat.lt_succ_self _) hw _ (hT.frm hS.frm)) fun w15 hf15 => ?_
  replace hS := hS.grow hf15
  refine sgo ?_
  refine wlcallgp (vals := []) (fun _ => lives21_ok _ (hA.frm hS.frm)) (fun w16 hf16 => ?_) (ha := fun _ => rfl)
  replace hS := hS.grow hf16
  refine sgo ?_
  refine fp_mark (.inl rfl) (hS.noDef 2 rfl) ?_
  replace hS := (hS.front 2 rfl).undef
  (first | refine fp1 (.inl rfl) rfl rfl ?_ | refine fp2 (.inl rfl) rfl rfl rfl ?_ | refine fp3 (.inl rfl) rfl rfl rfl rfl ?_ | refine fp0 (.inr rfl) rfl ?_ | refine fp0 (.inl rfl) rfl ?_ | refine fp1 (.inr rfl) rfl rfl ?_); refine ⟨?_, by (first | exact Frm.refl _ | assumption | exact Go.Sv.Sep.frm (by assumption) | (refine Frm.trans ?_ (by assumption); first | exact Frm.refl _ | assumption))⟩; (try simp only [realB, rv_true, Nat.reduceBEq, cond_true, cond_false, entG, real_lif, updGL])
  simp [pkb]
  omega
end Go.Proofs.YtcdogceabkpnmaaDoor

