/-
  Our texts SvDt, SvDu, SvOpnB, joined.
-/
import Derived.Test.YtcdogceabkpnmaaDoorMg10
/-
  Chapter 21: sieveref21.Walk; is.
-/
set_option linter.unusedSimpArgs false
set_option linter.unusedVariables false
set_option linter.unnecessarySimpa false
namespace Go.Proofs.YtcdogceabkpnmaaDoor
open Go Go.Sv Go.RowKit
theorem ints_at {l : List Nat} {i x : Nat} (h : l[i]? = some x) : (ints l)[i]? = some (int x) := by simp [ints, h]
/-- a node and its way, as they lie -/
structure WyM where
  way : List Nat
  wp : Option Addr
  wc : Nat
  m : NdM
def WyM.cells (x : WyM) : List Value := .slice x.wp x.way.length x.wc :: x.m.cells
theorem WyM.clen (x : WyM) : x.cells.length = 5 := rfl
def WyM.row (x : WyM) : RowD := ⟨1, x.wp, x.way.length, x.wc, ints x.way⟩
def WyM.wy (x : WyM) : List Nat × Nd := (x.way, x.m.nd)
theorem wy_one (x : WyM) : ∀ u ∈ x.cells, u.oneCell' = true := by
  intro u hu
  rcases List.mem_cons.1 hu with rfl | hu
  · rfl
  · exact nd_one x.m u hu
theorem wys_one (W : List WyM) : ∀ u ∈ W.flatMap WyM.cells, u.oneCell' = true := by
  intro u hu
  obtain ⟨m, _, hm⟩ := List.mem_flatMap.1 hu
  exact wy_one m u hm
theorem Sep.putWy {w0 w : World} {cs : List Plot} {x : WyM} {W : List WyM} {b : Nat} {vs : List Value} {q : Option Addr} {cc : Nat} (h : Sep w0 w (pOwn b vs :: pRow 1 x.wp x.way.length x.wc (ints x.way) :: pRow 5 q (W.length + 1) cc (W.flatMap WyM.cells ++ x.cells) :: pMany (W.map WyM.row) :: cs)) :
    Sep w0 w (pRow 5 q (W ++ [x]).length cc ((W ++ [x]).flatMap WyM.cells) :: pMany ((W ++ [x]).map WyM.row) :: cs) := by
  have h1 := (Sep.more (rs := W.map WyM.row) (cs := pRow 5 q (W.length + 1) cc (W.flatMap WyM.cells ++ x.cells) :: cs) (h.sel 4 [1, 3, 2])).front 1 rfl
  have e : W.flatMap WyM.cells ++ x.cells = (W ++ [x]).flatMap WyM.cells := by simp
  rw [e] at h1
  rw [List.length_append, List.map_append]
  exact h1
theorem wlk_wt (f : Fo) : ∀ w i, (f.wlk w i).length ≤ f.wt := by
  induction f with
  | nil => intro w i; exact Nat.le_refl _
  | cons n t es ks r ih1 ih2 =>
    intro w i
    have h1 := ih1 (w ++ [i]) 0
    have h2 := ih2 w (i + 1)
    simp only [Fo.wlk, Fo.wt, List.length_cons, List.length_append]
    split <;> simp <;> omega
theorem wkT_le (f : FoM) (w : List Nat) (i : Nat) : (wkT f w i).length ≤ f.wt := by
  obtain ⟨rest, hr⟩ := wkT_pre f w i
  have h1 := congrArg List.length hr
  have h2 := wlk_wt f.fo w 0
  rw [List.length_append] at h1
  rw [wt_fo]; omega
set_option maxHeartbeats 8000000 in
theorem refWalk_ok : ∀ (k : Nat) (f : FoM) (p : Option Addr) (c : Nat), f.size < k → f.wt ≤ 1048576 → ∀ (at_ : List Nat) (pw : Option Addr) (cw : Nat), at_.length + k ≤ 4194304 → ∀ (w0 w : World) (cs : List Plot), Sep w0 w cs → Im [] w pw (ints at_) → Tre w p f →
    CallsR Tryd.prog 11 #[.slice p f.len c, .slice pw at_.length cw] w fun v w' => ∃ (q : Option Addr) (cc : Nat) (W : List WyM), v = .slice q W.length cc ∧ W.map WyM.wy = f.fo.wlk at_ 0 ∧ (∀ x ∈ W, (∀ W0, Tre W0 p f → Im [] W0 x.m.ap (x.m.attrs.flatMap At.cells) ∧ Tre W0 x.m.kp x.m.kids) ∧ (FoM.of [x.m]).wt ≤ 1048576) ∧ Frm w w' ∧ Sep w0 w' (pRow 5 q W.length cc (W.flatMap WyM.cells) :: pMany (W.map WyM.row) :: cs) := by
  intro k
  induction k with
  | zero => intro f p c hk; omega
  | succ k ih =>
    intro f p c hk hw at_ pw cw hal w0 w cs hS0 hWy hT
    have hlw := FoM.len_wt f
    have hTw := hT
    have hS := ((Sep.start w).zero).push (c := pRow 5 none 0 0 []) (Frm.refl _) (Row.nil _ 5) (rb_nil _)
    refine enter (l := [.slice p f.len c, .slice pw at_.length cw]) Tryd.func11 rfl Tryd.ntmps11 (by kernel_rfl) rfl ?_
    refine sgo ?_
    refine wcloop (X := Nat × Option Addr × Nat × List WyM) (fun x => [(1, .slice pw at_.length cw), (5, .slice x.2.1 x.2.2.2.length x.2.2.1), (9, .slice p f.len c), (10, int f.len), (11, int x.1)])
      (fun x wr => x.1 ≤ f.len ∧ x.2.2.2.map WyM.wy = wkT f at_ x.1 ∧ (∀ y ∈ x.2.2.2, (∀ W0, Tre W0 p f → Im [] W0 y.m.ap (y.m.attrs.flatMap At.cells) ∧ Tre W0 y.m.kp y.m.kids) ∧ (FoM.of [y.m]).wt ≤ 1048576) ∧ Sep w wr [pRow 5 x.2.1 x.2.2.2.length x.2.2.1 (x.2.2.2.flatMap WyM.cells), pMany (x.2.2.2.map WyM.row)])
      (fun x => f.len - x.1) (0, none, 0, []) ⟨rfl, rfl, rfl, rfl, rfl, trivial⟩ ⟨Nat.zero_le _, rfl, (fun y hy => by cases hy), hS⟩ ?_
    clear hS
    rintro ⟨i, q, cc, W⟩ wr ρ ⟨hil, hev, hea, hS⟩
    dsimp only at *
    have hdl := wkT_le f at_ i
    have hnl : W.length = (wkT f at_ i).length := by rw [← hev, List.length_map]
    have hIm := (hTw.frm hS.frm).im
    refine sgo ?_
    (show WC _ _ _ _ _ _ _; first | refine WC_dec rfl (fun hc => ?_) (fun hc => ?_) | refine WC_cond rfl (fun hc => ?_) (fun hc => ?_))
    · have hlt : i < f.len := by omega
      obtain ⟨m, hx, hm, hseg, hfl, hps, hat, hkT⟩ := tre_at hT hlt
      have hsn := wkT_succ at_ hx
      have hdl2 := wkT_le f at_ (i + 1)
      have hsz := FoM.size_mem hm
      have hsm := nd_small hw hm
      have hw1 := wt1 hm
      obtain ⟨wi, hwi⟩ : ∃ wi, wi = at_ ++ [i] := ⟨_, rfl⟩
      have hwil : wi.length = at_.length + 1 := by rw [hwi]; simp
      rw [← hwi] at hsn
      have hih := fun (w1 : World) (q4 : Option Addr) (c4 : Nat) (cs' : List Plot) (h : Sep w w1 cs') h2 => ih m.kids m.kp m.kc (by omega) hsm.kids wi q4 c4 (by omega) w w1 cs' h h2 (hkT.frm h.frm)
      have hkid : ∀ W0, Tre W0 p f → Im [] W0 m.ap (m.attrs.flatMap At.cells) ∧ Tre W0 m.kp m.kids := fun W0 h => h.kid hm
      have hkw := wlk_wt m.kids.fo wi 0
      rw [← wt_fo] at hkw
      clear hc
      refine sgo ?_
      rw [hseg]
      refine salloc hS fun b7 w5 hS => ?_
      refine sgo ?_
      refine ssta (vs := m.cells) hS 0 (fun w6 hS => ?_) (hv := ⟨m.clen, rfl⟩) (h1 := List.all_eq_true.2 (nd_one m))
      replace hS : Sep w w6 [pOwn b7 m.cells, pRow 5 q W.length cc (W.flatMap WyM.cells), pMany (W.map WyM.row)] := hS
      refine sgo ?_
      refine sb0 hS fun b2 w7 hS => ?_
      refine sgo ?_
      refine sapp hS 0 (hWy.sep hS).sg (fun q2 c2 w8 hS => ?_) (hl := by rw [ints_len, Nat.mul_one]) (h1 := ints_one at_)
      rw [show 0 + at_.length = at_.length from Nat.zero_add _] at hS
      rw [show 0 + at_.length = at_.length from Nat.zero_add _]
      replace hS : Sep w w8 [pRow 1 q2 at_.length c2 (ints at_), pOwn b7 m.cells, pRow 5 q W.length cc (W.flatMap WyM.cells), pMany (W.map WyM.row)] := hS
      refine sgo ?_
      refine sb1i hS fun b3 w9 hS => ?_
      refine sgo ?_
      refine sapp hS 1 (hS.own 0 rfl).sg (fun q4 c4 w10 hS => ?_)
      rw [ints_snoc, ← hwi, ← hwil] at hS
      rw [← hwil]
      replace hS : Sep w w10 [pRow 1 q4 wi.length c4 (ints wi), pOwn b7 m.cells, pRow 5 q W.length cc (W.flatMap WyM.cells), pMany (W.map WyM.row)] := hS.sel 5 [1, 2, 3, 4]
      obtain ⟨n, t, es, ap, ac, ks, kp, kc⟩ := m
      replace hS : Sep w w10 [pRow 1 q4 wi.length c4 (ints wi), pOwn b7 [str n, str t, .slice ap es.length ac, .slice kp ks.len kc], pRow 5 q W.length cc (W.flatMap WyM.cells), pMany (W.map WyM.row)] := hS
      dsimp only at hat hih hsn hkw hkid
      refine sgo ?_
      refine wlbuild (cells := [.slice q4 wi.length c4, str n, str t, .slice ap es.length ac, .slice kp ks.len kc]) ?_
      refine sb1a (vs := [.slice q4 wi.length c4, str n, str t, .slice ap es.length ac, .slice kp ks.len kc]) hS fun b12 w11 hS => ?_
      refine sgo ?_
      refine sapp hS 3 (hS.own 0 rfl).sg (fun q5 c5 w12 hS => ?_) (h1 := by simp [Value.oneCell'])
      obtain ⟨W2, hW2⟩ : ∃ W2, W2 = W ++ [(⟨wi, q4, c4, ⟨n, t, es, ap, ac, ks, kp, kc⟩⟩ : WyM)] := ⟨_, rfl⟩
      have hW2l : W2.length = W.length + 1 := by rw [hW2]; simp
      have hea2 : ∀ y ∈ W2, (∀ W0, Tre W0 p f → Im [] W0 y.m.ap (y.m.attrs.flatMap At.cells) ∧ Tre W0 y.m.kp y.m.kids) ∧ (FoM.of [y.m]).wt ≤ 1048576 := by
        intro y hy
        rw [hW2] at hy
        rcases List.mem_append.1 hy with hy | hy
        · exact hea y hy
        · rw [List.mem_singleton.1 hy]; exact ⟨hkid, Nat.le_trans hw1 hw⟩
      have hev2 : W2.map WyM.wy = wkT f at_ i ++ [(wi, NdM.nd ⟨n, t, es, ap, ac, ks, kp, kc⟩)] := by rw [hW2, List.map_append, hev]; rfl
      have hwy : Im [] w12 q4 (ints wi) := hS.im 1 rfl
      have hS2 : Sep w w12 [pRow 5 q5 W2.length c5 (W2.flatMap WyM.cells), pMany (W2.map WyM.row), pOwn b7 [str n, str t, .slice ap es.length ac, .slice kp ks.len kc]] := by
        rw [hW2]
        exact Sep.putWy (x := ⟨wi, q4, c4, ⟨n, t, es, ap, ac, ks, kp, kc⟩⟩) (b := b12) (hS.sel 5 [0, 1, 3, 4, 2])
      rw [← hW2l]
      clear hS
      have hS := hS2
      clear hS2
      refine sgo ?_
      by_cases hn : n = []
      · rw [if_pos hn] at hsn
        refine wcno ?_ (ht := by simp [hn])
        refine sgo ?_
        exact ⟨(i + 1, q5, c5, W2), ⟨rfl, rfl, rfl, rfl, rfl, trivial⟩, ⟨hlt, hev2.trans hsn.symm, hea2, hS.sel 3 [0, 1]⟩, (by (try dsimp only); omega)⟩
      · rw [if_neg hn] at hsn
        refine wcyes ?_ (ht := by simp [hn])
        have hlen3 := congrArg List.length hsn
        rw [List.length_append, List.length_cons] at hlen3
        refine sgo ?_
        refine wlcall (hih w12 q4 c4 _ hS hwy) ?_
        clear hS
        rintro _ w13 ⟨q6, c6, V, rfl, hV, hVa, -, hS⟩
        have hVl : V.length = (ks.fo.wlk wi 0).length := by rw [← hV, List.length_map]
        refine sgo ?_
        refine sapp hS 2 (hS.row 0 rfl).sg (fun q7 c7 w14 hS => ?_) (hl := fm_len WyM.clen V) (h1 := wys_one V)
        have e7 : W2.flatMap WyM.cells ++ V.flatMap WyM.cells = (W2 ++ V).flatMap WyM.cells := by simp
        obtain ⟨W3, hW3⟩ : ∃ W3, W3 = W2 ++ V := ⟨_, rfl⟩
        have hW3l : W3.length = W2.length + V.length := by rw [hW3]; simp
        have hev3 : W3.map WyM.wy = wkT f at_ (i + 1) := by rw [hW3, List.map_append, hev2, hV, hsn, List.append_assoc]; rfl
        have hea3 : ∀ y ∈ W3, (∀ W0, Tre W0 p f → Im [] W0 y.m.ap (y.m.attrs.flatMap At.cells) ∧ Tre W0 y.m.kp y.m.kids) ∧ (FoM.of [y.m]).wt ≤ 1048576 := by
          intro y hy
          rw [hW3] at hy
          rcases List.mem_append.1 hy with hy | hy
          · exact hea2 y hy
          · obtain ⟨h1, h2⟩ := hVa y hy
            exact ⟨fun W0 h => h1 W0 (hkid W0 h).2, h2⟩
        rw [e7, ← hW3, ← hW3l] at hS
        rw [← hW3l]
        have hS2 : Sep w w14 [pRow 5 q7 W3.length c7 (W3.flatMap WyM.cells), pMany (W3.map WyM.row)] := by
          have h1 := Sep.both (rs := V.map WyM.row) (rs' := W2.map WyM.row) (cs := [pRow 5 q7 W3.length c7 (W3.flatMap WyM.cells)]) (hS.sel 5 [1, 3, 2])
          rw [← List.map_append, ← hW3] at h1
          exact h1.front 1 rfl
        clear hS
        have hS := hS2
        clear hS2
        refine sgo ?_
        exact ⟨(i + 1, q7, c7, W3), ⟨rfl, rfl, rfl, rfl, rfl, trivial⟩, ⟨hlt, hev3, hea3, hS⟩, (by (try dsimp only); omega)⟩
    · obtain rfl : i = f.len := by omega
      rw [wkT_all] at *
      refine sgo ?_
      (first | refine fp1 (.inl rfl) rfl rfl ?_ | refine fp2 (.inl rfl) rfl rfl rfl ?_ | refine fp3 (.inl rfl) rfl rfl rfl rfl ?_ | refine fp0 (.inr rfl) rfl ?_ | refine fp0 (.inl rfl) rfl ?_ | refine fp1 (.inr rfl) rfl rfl ?_)
      exact ⟨q, cc, W, rfl, hev, hea, hS.frm, hS0.seq (ds := [_, _]) hS⟩
def isP (b7 : Nat) (q wq : Option Addr) (n wn c wc j : Nat) (nd : NdM) (x : WyM) (W : List WyM) : PlanB Unit where
  pl k d := match k with
    | 17 => [pOwn d.b nd.cells]
    | 23 => [pOwn d.b x.m.cells]
    | _ => []
  con k := match k with
    | 17 => some 24
    | 23 => some 24
    | _ => none
  base k := match k with
    | _ => []
  fact k a := match k with
    | 0 => (a 0).v = int j
    | 1 => (a 1).v = .slice q n c
    | 2 => (a 2).v = int n
    | 3 => (a 3).v = .bool false
    | 4 => (a 4).v = .bool false
    | 5 => (a 5).v = .slice wq wn wc
    | 6 => (a 6).v = int wn
    | 7 => (a 7).v = .slice q n c
    | 8 => (a 8).v = int j
    | 9 => (a 9).v = ptrAt q (j * 5)
    | 10 => (a 10).v = ptrAt q (j * 5)
    | 11 => (a 11).v = .slice x.wp x.way.length x.wc
    | 12 => (a 12).v = int x.way.length
    | 13 => (a 13).v = .bool false
    | 14 => (a 14).v = .bool false
    | 15 => (a 15).v = .bool false
    | 16 => (a 16).v = .agg ⟨nd.cells⟩
    | 17 => (a 17).v = .slice (pb (a 17).b) 1 1
    | 18 => (a 18).v = .slice q n c
    | 19 => (a 19).v = int j
    | 20 => (a 20).v = ptrAt q (j * 5)
    | 21 => (a 21).v = ptrAt q (j * 5 + 1)
    | 22 => (a 22).v = .agg ⟨((W.flatMap WyM.cells).drop (j * 5 + 1)).take 4⟩
    | 23 => (a 23).v = .slice (pb (a 23).b) 1 1
    | 24 => (a 24).v = .bool true
    | 25 => (a 25).v = .bool false
    | 26 => (a 26).v = .bool false
    | _ => True
set_option maxHeartbeats 4000000 in
theorem is21_ok (W : List WyM) (q : Option Addr) (cy : Nat) (j : Nat) (x : WyM) (way : List Nat) (pw : Option Addr) (cw : Nat) (nd : NdM) (hx : W[j]? = some x) (hway : way = x.way) (hnd : nd.nd = x.m.nd) (hWl : W.length ≤ 4194304) (hwl4 : way.length ≤ 4194304) (w : World) (hq : Im [] w q (W.flatMap WyM.cells)) (hxw : Im [] w x.wp (ints x.way)) (hxa : Im [] w x.m.ap (x.m.attrs.flatMap At.cells)) (hxk : Tre w x.m.kp x.m.kids) (hxs : (FoM.of [x.m]).wt ≤ 1048576) (hwy : Im [] w pw (ints way)) (hna : Im [] w nd.ap (nd.attrs.flatMap At.cells)) (hnk : Tre w nd.kp nd.kids) :
    PureC Tryd.prog 13 #[.slice q W.length cy, int j, .slice pw way.length cw, .agg ⟨nd.cells⟩] w (.bool true) := by
  have hlt : j < W.length := (List.getElem?_eq_some_iff.1 hx).1
  have hfl := fm_len WyM.clen W
  have hps : ∃ a, q = some a := hq.sg.some (by omega)
  have g0 := fm_get WyM.clen W j 0 (by decide)
  rw [hx] at g0
  replace g0 : (W.flatMap WyM.cells)[j * 5]? = some (.slice x.wp x.way.length x.wc) := g0
  have hge : decide ((W.length : Int) ≤ (j : Int)) = false := decide_eq_false (by omega)
  have hwl : (way.length : Int) = (x.way.length : Int) := by rw [hway]
  have hseg : ((W.flatMap WyM.cells).drop (j * 5 + 1)).take 4 = x.m.cells := by
    have h1 := fm_seg WyM.clen W hx
    have h2 : ((W.flatMap WyM.cells).drop (j * 5 + 1)).take 4 = (((W.flatMap WyM.cells).drop (j * 5)).take 5).drop 1 := by
      rw [List.drop_take, List.drop_drop]
    rw [h2, h1]; rfl
  have hequal : ∀ (b1 b2 : Nat) (w' : World) (cs' : List Plot), Sep w w' (pOwn b1 nd.cells :: pOwn b2 x.m.cells :: cs') → PureC Tryd.prog 14 #[.slice (pb b1) 1 1, .slice (pb b2) 1 1] w' (.bool true) := by
    intro b1 b2 w' cs' h
    have hwn : (FoM.of [nd]).wt = (FoM.of [x.m]).wt := by rw [wt_fo, wt_fo, fo_of, fo_of, List.map_cons, List.map_cons, hnd]
    have hE := refEqual21_ok ((FoM.of [nd]).size + 1) (FoM.of [nd]) (FoM.of [x.m]) (pb b1) (pb b2) 1 1 (Nat.lt_succ_self _) (by omega) hxs w'
      (treOwn (L := [nd]) (by have := h.own 0 rfl; simpa using this) fun r hr => by rw [List.mem_singleton.1 hr]; exact ⟨hna.sep h, hnk.frm h.frm⟩)
      (treOwn (L := [x.m]) (by have := h.own 1 rfl; simpa using this) fun r hr => by rw [List.mem_singleton.1 hr]; exact ⟨hxa.sep h, hxk.frm h.frm⟩)
    rw [len_of, len_of, decide_eq_true (by rw [fo_of, fo_of, List.map_cons, List.map_cons, hnd])] at hE
    exact hE
  have hS := Sep.start w
  refine enter (l := [.slice q W.length cy, int j, .slice pw way.length cw, .agg ⟨nd.cells⟩]) Tryd.func13 rfl Tryd.ntmps13 (by kernel_rfl) rfl ?_
  refine sgo ?_
  refine sbox (v := .agg ⟨nd.cells⟩) hS fun b7 w1 hS => ?_
  replace hS : Sep w w1 ([] ++ [pOwn b7 nd.cells]) := hS
  refine sgo ?_
  refine wcplanb (b := []) (isP b7 q pw W.length way.length cy cw j nd x W) ⟨.nilIface, none, 0, 0, ()⟩ hS rfl (fun j oj a a' hj he hd h => ?_) ⟨?_, ?_, ?_, ?_, ?_, ?_, ?_, ?_, ?_, ?_, ?_, ?_, ?_, ?_, ?_, ?_, ?_, ?_, ?_, ?_, ?_, ?_, ?_, ?_, ?_, ?_, ?_, trivial⟩ ?_
  · have hjl : j < 27 := (List.getElem?_eq_some_iff.1 hj).1
    match j, hjl with
    | 0, _ | 1, _ | 2, _ | 3, _ | 4, _ | 5, _ | 6, _ | 7, _ | 8, _ | 9, _ | 10, _ | 11, _ | 12, _ | 13, _ | 14, _ | 15, _ | 16, _ | 17, _ | 18, _ | 19, _ | 20, _ | 21, _ | 22, _ | 23, _ | 24, _ | 25, _ | 26, _ => first | (simp only [isP] at h ⊢; rw [← he]; exact h) | exact h
  · intro a σ' w' rest hσ hdep hS'   -- 0: move; pieces:  ..
    have e1 : σ' 1 = int j := (hσ 1 (notDstB rfl)).trans rfl
    exact rule_e [(1, _)] ⟨e1, trivial⟩ ⟨⟨int j, none, 0, 0, ()⟩, rfl, rfl, hS'⟩
  · intro a σ' w' rest hσ hdep hS'   -- 1: move; pieces:  ..
    have e0 : σ' 0 = .slice q W.length cy := (hσ 0 (notDstB rfl)).trans rfl
    exact rule_e [(0, _)] ⟨e0, trivial⟩ ⟨⟨.slice q W.length cy, none, 0, 0, ()⟩, rfl, rfl, hS'⟩
  · intro a σ' w' rest hσ hdep hS'   -- 2: call; pieces:  ..
    have f1 := (hdep 1 _ rfl rfl).2
    have e11 := ((hdep 1 _ rfl rfl).1 11 rfl).trans f1
    exact rule_y (y_len e11 rfl) ⟨⟨int W.length, none, 0, 0, ()⟩, rfl, rfl, hS'⟩
  · intro a σ' w' rest hσ hdep hS'   -- 3: binOp; pieces:  ..
    have f0 := (hdep 0 _ rfl rfl).2
    have e10 := ((hdep 0 _ rfl rfl).1 10 rfl).trans f0
    have f2 := (hdep 2 _ rfl rfl).2
    have e12 := ((hdep 2 _ rfl rfl).1 12 rfl).trans f2
    exact rule_e [(10, _), (12, _)] ⟨e10, e12, trivial⟩ ⟨⟨.bool false, none, 0, 0, ()⟩, rfl, rfl, hS'⟩ (he := (show ev1 _ _ = some ⟨.bool (decide ((W.length : Int) ≤ (j : Int))), true⟩ from rfl).trans (by rw [hge]))
  · intro a σ' w' rest hσ hdep hS'   -- 4: move; pieces:  ..
    have f3 := (hdep 3 _ rfl rfl).2
    have e13 := ((hdep 3 _ rfl rfl).1 13 rfl).trans f3
    exact rule_e [(13, _)] ⟨e13, trivial⟩ ⟨⟨.bool false, none, 0, 0, ()⟩, rfl, rfl, hS'⟩
  · intro a σ' w' rest hσ hdep hS'   -- 5: move; pieces:  ..
    have e2 : σ' 2 = .slice pw way.length cw := (hσ 2 (notDstB rfl)).trans rfl
    have eg := ((hdep 4 _ rfl rfl).1 14 rfl).trans (hdep 4 _ rfl rfl).2
    exact rule_eg [(2, _)] ⟨e2, trivial⟩ ⟨⟨.slice pw way.length cw, none, 0, 0, ()⟩, rfl, rfl, hS'⟩ eg
  · intro a σ' w' rest hσ hdep hS'   -- 6: call; pieces:  ..
    have f5 := (hdep 5 _ rfl rfl).2
    have e15 := ((hdep 5 _ rfl rfl).1 15 rfl).trans f5
    have eg := ((hdep 4 _ rfl rfl).1 14 rfl).trans (hdep 4 _ rfl rfl).2
    exact rule_yg (y_len e15 rfl) ⟨⟨int way.length, none, 0, 0, ()⟩, rfl, rfl, hS'⟩ eg
  · intro a σ' w' rest hσ hdep hS'   -- 7: move; pieces:  ..
    have e0 : σ' 0 = .slice q W.length cy := (hσ 0 (notDstB rfl)).trans rfl
    have eg := ((hdep 4 _ rfl rfl).1 14 rfl).trans (hdep 4 _ rfl rfl).2
    exact rule_eg [(0, _)] ⟨e0, trivial⟩ ⟨⟨.slice q W.length cy, none, 0, 0, ()⟩, rfl, rfl, hS'⟩ eg
  · intro a σ' w' rest hσ hdep hS'   -- 8: move; pieces:  ..
    have e1 : σ' 1 = int j := (hσ 1 (notDstB rfl)).trans rfl
    have eg := ((hdep 4 _ rfl rfl).1 14 rfl).trans (hdep 4 _ rfl rfl).2
    exact rule_eg [(1, _)] ⟨e1, trivial⟩ ⟨⟨int j, none, 0, 0, ()⟩, rfl, rfl, hS'⟩ eg
  · intro a σ' w' rest hσ hdep hS'   -- 9: indexAddr; pieces:  ..
    have f7 := (hdep 7 _ rfl rfl).2
    have e17 := ((hdep 7 _ rfl rfl).1 17 rfl).trans f7
    have f8 := (hdep 8 _ rfl rfl).2
    have e18 := ((hdep 8 _ rfl rfl).1 18 rfl).trans f8
    have eg := ((hdep 4 _ rfl rfl).1 14 rfl).trans (hdep 4 _ rfl rfl).2
    exact rule_yg (y_idx e17 e18 hlt hps) ⟨⟨ptrAt q (j * 5), none, 0, 0, ()⟩, rfl, rfl, hS'⟩ eg
  · intro a σ' w' rest hσ hdep hS'   -- 10: fieldAddr; pieces:  ..
    have f9 := (hdep 9 _ rfl rfl).2
    have e19 := ((hdep 9 _ rfl rfl).1 19 rfl).trans f9
    have eg := ((hdep 4 _ rfl rfl).1 14 rfl).trans (hdep 4 _ rfl rfl).2
    exact rule_yg (y_field e19 hps (by decide)) ⟨⟨ptrAt q (j * 5), none, 0, 0, ()⟩, rfl, rfl, hS'⟩ eg
  · intro a σ' w' rest hσ hdep hS'   -- 11: load; pieces:  ..
    have f10 := (hdep 10 _ rfl rfl).2
    have e20 := ((hdep 10 _ rfl rfl).1 20 rfl).trans f10
    have eg := ((hdep 4 _ rfl rfl).1 14 rfl).trans (hdep 4 _ rfl rfl).2
    exact rule_yg (y_load e20 (hq.frm hS'.frm).sg g0) ⟨⟨.slice x.wp x.way.length x.wc, none, 0, 0, ()⟩, rfl, rfl, hS'⟩ eg
  · intro a σ' w' rest hσ hdep hS'   -- 12: call; pieces:  ..
    have f11 := (hdep 11 _ rfl rfl).2
    have e21 := ((hdep 11 _ rfl rfl).1 21 rfl).trans f11
    have eg := ((hdep 4 _ rfl rfl).1 14 rfl).trans (hdep 4 _ rfl rfl).2
    exact rule_yg (y_len e21 rfl) ⟨⟨int x.way.length, none, 0, 0, ()⟩, rfl, rfl, hS'⟩ eg
  · intro a σ' w' rest hσ hdep hS'   -- 13: binOp; pieces:  ..
    have f6 := (hdep 6 _ rfl rfl).2
    have e16 := ((hdep 6 _ rfl rfl).1 16 rfl).trans f6
    have f12 := (hdep 12 _ rfl rfl).2
    have e22 := ((hdep 12 _ rfl rfl).1 22 rfl).trans f12
    have eg := ((hdep 4 _ rfl rfl).1 14 rfl).trans (hdep 4 _ rfl rfl).2
    exact rule_eg [(16, _), (22, _)] ⟨e16, e22, trivial⟩ ⟨⟨.bool false, none, 0, 0, ()⟩, rfl, rfl, hS'⟩ eg (he := (show ev1 _ _ = some ⟨.bool (decide ((way.length : Int) ≠ (x.way.length : Int))), true⟩ from rfl).trans (by rw [hwl]; simp))
  · intro a σ' w' rest hσ hdep hS'   -- 14: pick; pieces:  ..
    have f4 := (hdep 4 _ rfl rfl).2
    have e14 := ((hdep 4 _ rfl rfl).1 14 rfl).trans f4
    have f13 := (hdep 13 _ rfl rfl).2
    have e23 := ((hdep 13 _ rfl rfl).1 23 rfl).trans f13
    exact rule_e [(14, _), (23, _)] ⟨e14, e23, trivial⟩ ⟨⟨.bool false, none, 0, 0, ()⟩, rfl, rfl, hS'⟩
  · intro a σ' w' rest hσ hdep hS'   -- 15: move; pieces:  ..
    have f14 := (hdep 14 _ rfl rfl).2
    have e24 := ((hdep 14 _ rfl rfl).1 24 rfl).trans f14
    exact rule_e [(24, _)] ⟨e24, trivial⟩ ⟨⟨.bool false, none, 0, 0, ()⟩, rfl, rfl, hS'⟩
  · intro a σ' w' rest hσ hdep hS'   -- 16: load; pieces:  ..
    have e7 : σ' 7 = ptrAt (pb b7) 0 := (hσ 7 (notDstB rfl)).trans rfl
    have eg := ((hdep 15 _ rfl rfl).1 25 rfl).trans (hdep 15 _ rfl rfl).2
    exact rule_yg (y_loada e7 (Sep.sgv hS' 0 rfl) (Nat.le_of_ble_eq_true rfl) ⟨_, rfl⟩) ⟨⟨.agg ⟨nd.cells⟩, none, 0, 0, ()⟩, rfl, rfl, hS'⟩ eg
  · intro a σ' w' rest hσ hdep hS'   -- 17: buildSlice; pieces:  ..
    have f16 := (hdep 16 _ rfl rfl).2
    have e26 := ((hdep 16 _ rfl rfl).1 26 rfl).trans f16
    have eg := ((hdep 15 _ rfl rfl).1 25 rfl).trans (hdep 15 _ rfl rfl).2
    obtain ⟨b, w2, hy, hS2⟩ := y_bs1g (P := Tryd.prog) (t := 22) (d := some 27) (x := .tmp 26) (vs := nd.cells) (g := some (15, false)) hS' e26 nd.clen rfl (by decide) (by decide)
    exact rule_yg hy ⟨⟨.slice (pb b) 1 1, none, 0, b, ()⟩, rfl, rfl, hS2⟩ eg
  · intro a σ' w' rest hσ hdep hS'   -- 18: move; pieces:  ..
    have e0 : σ' 0 = .slice q W.length cy := (hσ 0 (notDstB rfl)).trans rfl
    have eg := ((hdep 15 _ rfl rfl).1 25 rfl).trans (hdep 15 _ rfl rfl).2
    exact rule_eg [(0, _)] ⟨e0, trivial⟩ ⟨⟨.slice q W.length cy, none, 0, 0, ()⟩, rfl, rfl, hS'⟩ eg
  · intro a σ' w' rest hσ hdep hS'   -- 19: move; pieces:  ..
    have e1 : σ' 1 = int j := (hσ 1 (notDstB rfl)).trans rfl
    have eg := ((hdep 15 _ rfl rfl).1 25 rfl).trans (hdep 15 _ rfl rfl).2
    exact rule_eg [(1, _)] ⟨e1, trivial⟩ ⟨⟨int j, none, 0, 0, ()⟩, rfl, rfl, hS'⟩ eg
  · intro a σ' w' rest hσ hdep hS'   -- 20: indexAddr; pieces:  ..
    have f18 := (hdep 18 _ rfl rfl).2
    have e28 := ((hdep 18 _ rfl rfl).1 28 rfl).trans f18
    have f19 := (hdep 19 _ rfl rfl).2
    have e29 := ((hdep 19 _ rfl rfl).1 29 rfl).trans f19
    have eg := ((hdep 15 _ rfl rfl).1 25 rfl).trans (hdep 15 _ rfl rfl).2
    exact rule_yg (y_idx e28 e29 hlt hps) ⟨⟨ptrAt q (j * 5), none, 0, 0, ()⟩, rfl, rfl, hS'⟩ eg
  · intro a σ' w' rest hσ hdep hS'   -- 21: fieldAddr; pieces:  ..
    have f20 := (hdep 20 _ rfl rfl).2
    have e30 := ((hdep 20 _ rfl rfl).1 30 rfl).trans f20
    have eg := ((hdep 15 _ rfl rfl).1 25 rfl).trans (hdep 15 _ rfl rfl).2
    exact rule_yg (y_field e30 hps (by decide)) ⟨⟨ptrAt q (j * 5 + 1), none, 0, 0, ()⟩, rfl, rfl, hS'⟩ eg
  · intro a σ' w' rest hσ hdep hS'   -- 22: load; pieces:  ..
    have f21 := (hdep 21 _ rfl rfl).2
    have e31 := ((hdep 21 _ rfl rfl).1 31 rfl).trans f21
    have eg := ((hdep 15 _ rfl rfl).1 25 rfl).trans (hdep 15 _ rfl rfl).2
    exact rule_yg (y_loada e31 (hq.frm hS'.frm).sg (by omega) hps) ⟨⟨.agg ⟨((W.flatMap WyM.cells).drop (j * 5 + 1)).take 4⟩, none, 0, 0, ()⟩, rfl, rfl, hS'⟩ eg
  · intro a σ' w' rest hσ hdep hS'   -- 23: buildSlice; pieces:  ..
    have f22 := (hdep 22 _ rfl rfl).2
    have e32 := ((hdep 22 _ rfl rfl).1 32 rfl).trans f22
    have eg := ((hdep 15 _ rfl rfl).1 25 rfl).trans (hdep 15 _ rfl rfl).2
    rw [hseg] at e32
    obtain ⟨b, w2, hy, hS2⟩ := y_bs1g (P := Tryd.prog) (t := 22) (d := some 33) (x := .tmp 32) (vs := x.m.cells) (g := some (15, false)) hS' e32 x.m.clen rfl (by decide) (by decide)
    exact rule_yg hy ⟨⟨.slice (pb b) 1 1, none, 0, b, ()⟩, rfl, rfl, hS2⟩ eg
  · intro a σ' w' rest hσ hdep hS'   -- 24: call; pieces: takes 17, takes 23 ..
    have f17 := (hdep 17 _ rfl rfl).2
    have e27 := ((hdep 17 _ rfl rfl).1 27 rfl).trans f17
    have f23 := (hdep 23 _ rfl rfl).2
    have e33 := ((hdep 23 _ rfl rfl).1 33 rfl).trans f23
    have eg := ((hdep 15 _ rfl rfl).1 25 rfl).trans (hdep 15 _ rfl rfl).2
    have hE := hequal (a 17).b (a 23).b w' _ hS'
    exact rule_pureg hE (fun w2 hf2 => ⟨⟨.bool true, none, 0, 0, ()⟩, rfl, rfl, (hS'.grow hf2).sel 2 []⟩) (am2 e27 e33) eg
  · intro a σ' w' rest hσ hdep hS'   -- 25: unOp; pieces:  ..
    have f24 := (hdep 24 _ rfl rfl).2
    have e34 := ((hdep 24 _ rfl rfl).1 34 rfl).trans f24
    have eg := ((hdep 15 _ rfl rfl).1 25 rfl).trans (hdep 15 _ rfl rfl).2
    exact rule_eg [(34, _)] ⟨e34, trivial⟩ ⟨⟨.bool false, none, 0, 0, ()⟩, rfl, rfl, hS'⟩ eg
  · intro a σ' w' rest hσ hdep hS'   -- 26: pick; pieces:  ..
    have f15 := (hdep 15 _ rfl rfl).2
    have e25 := ((hdep 15 _ rfl rfl).1 25 rfl).trans f15
    have f25 := (hdep 25 _ rfl rfl).2
    have e35 := ((hdep 25 _ rfl rfl).1 35 rfl).trans f25
    exact rule_e [(25, _), (35, _)] ⟨e25, e35, trivial⟩ ⟨⟨.bool false, none, 0, 0, ()⟩, rfl, rfl, hS'⟩
  · intro a σ' w' hσ hA' hS'
    have h26 := hA' 26 _ rfl
    rw [frameOf (σ := σ') [(0, .slice q W.length cy), (1, int j), (2, .slice pw way.length cw), (36, .bool false)] ⟨(hσ 0 (notDst rfl)).trans rfl, (hσ 1 (notDst rfl)).trans rfl, (hσ 2 (notDst rfl)).trans rfl, (h26.1 36 rfl).trans h26.2, trivial⟩]
    have hf : Frm w w' := Sep.frm hS'
    clear hA' hS' h26 hσ
    refine sgo ?_
    refine wcloop (X := Nat) (fun i => [(0, .slice q W.length cy), (1, int j), (2, .slice pw way.length cw), (38, int way.length), (39, int i)]) (fun i wr => i ≤ way.length ∧ Frm w wr) (fun i => way.length - i) 0 ⟨rfl, rfl, rfl, rfl, rfl, trivial⟩ ⟨Nat.zero_le _, hf⟩ ?_
    clear hf
    rintro i wr ρ ⟨hil, hf⟩
    have hq' := hq.frm hf
    have hxw' := hxw.frm hf
    have hwy' := hwy.frm hf
    refine sgo ?_
    (show WC _ _ _ _ _ _ _; first | refine WC_dec rfl (fun hc => ?_) (fun hc => ?_) | refine WC_cond rfl (fun hc => ?_) (fun hc => ?_))
    · have hli : i < way.length := by omega
      have hxi : way[i]? = some way[i] := List.getElem?_eq_getElem hli
      generalize way[i] = y at *
      have k0 := ints_at hxi
      have k1 : (ints x.way)[i]? = some (int y) := by rw [← hway]; exact k0
      have hil1 := ints_len way
      have hil2 := ints_len x.way
      have hps2 : ∃ a, pw = some a := hwy.some (by omega)
      have hps3 : ∃ a, x.wp = some a := hxw.some (by omega)
      have hli2 : i < x.way.length := by rw [← hway]; exact hli
      clear hc
      refine sgo ?_
      refine wcdraw ?_
      refine qgo ?_
      refine QL_nil ?_; intro wd hwd
      have hfd := hf.trans hwd
      refine sgo ?_
      refine wcno ?_ (ht := by simp)
      refine sgo ?_
      exact ⟨i + 1, ⟨rfl, rfl, rfl, rfl, rfl, trivial⟩, ⟨hli, hfd⟩, (by (try dsimp only); omega)⟩
    · refine sgo ?_
      (first | refine fp1 (.inl rfl) rfl rfl ?_ | refine fp2 (.inl rfl) rfl rfl rfl ?_ | refine fp3 (.inl rfl) rfl rfl rfl rfl ?_ | refine fp0 (.inr rfl) rfl ?_ | refine fp0 (.inl rfl) rfl ?_ | refine fp1 (.inr rfl) rfl rfl ?_); refine ⟨?_, by (first | exact Frm.refl _ | assumption | exact Go.Sv.Sep.frm (by assumption) | (refine Frm.trans ?_ (by assumption); first | exact Frm.refl _ | assumption))⟩; (try simp only [realB, rv_true, Nat.reduceBEq, cond_true, cond_false, entG, real_lif, updGL])
end Go.Proofs.YtcdogceabkpnmaaDoor

/-
  Chapter 21: DomWalks walked.
-/
set_option linter.unusedSimpArgs false
set_option linter.unusedVariables false
set_option linter.unnecessarySimpa false
namespace Go.Proofs.YtcdogceabkpnmaaDoor
open Go Go.Sv Go.RowKit
/-- what a law of walks keeps: the limit, the count, Walk's own trees, what is wanted, what is given -/
def wksL (b9 b8 bW b6 b4 : Nat) (kk n : Int) (q qw qg : Option Addr) (cc cw cg : Nat) (L G : List NdM) (W : List WyM) : List Plot :=
  [pOwn b9 [int kk], pOwn b8 [int n], pOwn bW [.slice q L.length cc], pRow 4 q L.length cc (L.flatMap NdM.cells), pMany (L.flatMap NdM.rows), pOwn b6 [.slice qw W.length cw], pRow 5 qw W.length cw (W.flatMap WyM.cells), pMany (W.map WyM.row), pRow 4 qg G.length cg (G.flatMap NdM.cells), pMany (G.flatMap NdM.rows), pOwn b4 [.bool false]]
theorem m2_read {w : World} {m2 : NdM} (h : ∀ r ∈ m2.rows, r.ok w) : Im [] w m2.ap (m2.attrs.flatMap At.cells) ∧ Tre w m2.kp m2.kids := by
  have h1 := nds_rows (w := w) (f := FoM.of [m2]) (by
    intro r hr
    rw [rows_of] at hr
    simp only [List.flatMap_cons, List.flatMap_nil, List.append_nil] at hr
    exact h r hr)
  exact ⟨h1.1, h1.2.1, h1.2.2.1⟩
/-- `is` of what Walk tells, at its place -/
theorem is_at {W : List WyM} {Wk : List (List Nat × Nd)} {i : Nat} {way : List Nat} {nd : Nd} {p : Option Addr} {f : FoM} (hWk : W.map WyM.wy = Wk) (hWa : ∀ x ∈ W, (∀ W0, Tre W0 p f → Im [] W0 x.m.ap (x.m.attrs.flatMap At.cells) ∧ Tre W0 x.m.kp x.m.kids) ∧ (FoM.of [x.m]).wt ≤ 1048576) (hWl : W.length ≤ 4194304) (hx : Wk[i]? = some (way, nd)) (hwl : way.length ≤ 4194304)
    {m2 : NdM} (hm2 : m2.nd = nd) (q : Option Addr) (cy : Nat) (pw : Option Addr) (cw : Nat) (w : World) (hT : Tre w p f) (hq : Im [] w q (W.flatMap WyM.cells)) (hm : ∀ r ∈ W.map WyM.row, r.ok w) (hwy : Im [] w pw (ints way)) (hr : ∀ r ∈ m2.rows, r.ok w) :
    PureC Tryd.prog 13 #[.slice q W.length cy, int i, .slice pw way.length cw, .agg ⟨m2.cells⟩] w (.bool true) := by
  rw [← hWk, List.getElem?_map] at hx
  cases hxi : W[i]? with
  | none => rw [hxi] at hx; cases hx
  | some x =>
    rw [hxi] at hx
    injection hx with hx
    injection hx with h1 h2
    have hmem := List.mem_of_getElem? hxi
    obtain ⟨h3, h4⟩ := hWa x hmem
    obtain ⟨h5, h6⟩ := m2_read hr
    obtain ⟨h7, h8⟩ := h3 w hT
    exact is21_ok W q cy i x way pw cw m2 hxi h1.symm (hm2.trans h2.symm) hWl hwl w hq (RowD.im (hm x.row (List.mem_map.2 ⟨x, hmem, rfl⟩))) h7 h8 h4 hwy h5 h6
theorem wlk_way (f : Fo) : ∀ w i, ∀ x ∈ f.wlk w i, x.1.length ≤ w.length + f.wt := by
  induction f with
  | nil => intro w i x hx; cases hx
  | cons n t es ks r ih1 ih2 =>
    intro w i x hx
    simp only [Fo.wlk, List.mem_cons, List.mem_append] at hx
    simp only [Fo.wt]
    rcases hx with rfl | hx | hx
    · simp; omega
    · split at hx
      · cases hx
      · have := ih1 _ _ x hx
        simp only [List.length_append, List.length_cons, List.length_nil] at this
        omega
    · have := ih2 _ _ x hx; omega
set_option maxHeartbeats 16000000 in
theorem domWalks_ok (f : FoM) (s : Int) (p : Option Addr) (c : Nat) (hs0 : 0 ≤ s) (hw : f.wt ≤ 1048576) (w : World) (hA : Asc w) (hT : Tre w p f) : PureC Tryd.prog 3 #[.slice p f.len c, .int .u64 s] w (.bool true) := by
  have hS := Sep.start w
  have hsz := size_wt f
  refine enter (l := [.slice p f.len c, .int .u64 s]) Tryd.func3 rfl Tryd.ntmps3 (by kernel_rfl) rfl ?_
  refine sgo ?_
  refine salloc hS fun b4 w1 hS => ?_
  replace hS : Sep w w1 [pOwn b4 [.bool false]] := hS
  refine sgo ?_
  refine wlcall (copy21_ok (f.size + 1) f p c (Nat.lt_succ_self _) hw w w1 _ hS (hT.frm hS.frm)) ?_
  rintro _ w2 ⟨qg, cg, G, rfl, hG, -, hS⟩
  have hGw : (FoM.of G).wt ≤ 1048576 := by rw [wt_of_nd hG]; exact hw
  have hGf := fo_copy hG
  refine sgo ?_
  refine wlcall (refWalk_ok (f.size + 1) f p c (Nat.lt_succ_self _) hw [] none 0 (by simp; omega) w w2 _ hS (Im.nil _ _ _) (hT.frm hS.frm)) ?_
  rintro _ w3 ⟨qw, cw, W, rfl, hW, hWa, -, hS⟩
  refine sgo ?_
  refine salloc hS fun b6 w4 hS => ?_
  refine sgo ?_
  refine sst_slice hS 0 fun w5 hS => ?_
  replace hS : Sep w w5 [pOwn b6 [.slice qw W.length cw], pRow 5 qw W.length cw (W.flatMap WyM.cells), pMany (W.map WyM.row), pRow 4 qg G.length cg (G.flatMap NdM.cells), pMany (G.flatMap NdM.rows), pOwn b4 [.bool false]] := hS
  refine sgo ?_
  have hD := domWalk_ok (FoM.of G) qg cg hGw w w5 _ hS (Sep.treL hS 3 4 rfl rfl)
  rw [len_of] at hD
  refine wlcall hD ?_
  clear hD
  rintro _ w6 ⟨bW, q, cc, L, rfl, hL, -, hS⟩
  rw [FoM.list_of] at hL
  have hLf : (FoM.of L).fo = f.fo := (fo_same hL).trans hGf
  have hLw : (FoM.of L).wt ≤ 1048576 := by rw [wt_fo, hLf, ← wt_fo]; exact hw
  obtain ⟨Wk, hWk0⟩ : ∃ Wk, Wk = f.fo.wlk [] 0 := ⟨_, rfl⟩
  have hWkl := wlk_wt f.fo [] 0
  have hway := wlk_way f.fo [] 0
  have hne := wlk_ne f.fo [] 0
  rw [← wt_fo, ← hWk0] at hWkl hway
  rw [← hWk0] at hne hW
  have hWl : W.length = Wk.length := by rw [← hW, List.length_map]
  have hcap := (hS.row 1 rfl).le_cap.1
  have hfit : (FoM.of L).fit := fit_rows (by rw [rows_of]; exact hS.many 2 rfl)
  have hLs : (FoM.of L).size ≤ 4000000 := by have := size_wt (FoM.of L); omega
  have hWe : (FoM.of L).fo.wlk [] 0 = Wk := by rw [hLf, hWk0]
  refine sgo ?_
  refine wl ?_ (y_fnil Tryd.underlying28 rfl rfl)
  refine sgo ?_
  generalize IntKind.i64.wrap (s % 20) = kk
  refine sgo ?_
  refine salloc hS fun b8 w7 hS => ?_
  refine sgo ?_
  refine salloc hS fun b9 w8 hS => ?_
  refine sgo ?_
  refine sst_int hS 1 fun w9 hS => ?_
  refine sgo ?_
  refine sst_int hS 0 fun w10 hS => ?_
  replace hS : Sep w w10 (wksL b9 b8 bW b6 b4 kk ((0 : Nat) : Int) q qw qg cc cw cg L G W) := hS
  refine sgo ?_
  refine wcutk (X := Nat × Nat) (fun x => [(0, .slice p f.len c), (4, ptrAt (pb b4) 0), (5, .slice qg G.length cg), (6, ptrAt (pb b6) 0), (7, .func (.func 40) #[] #[ptrAt (pb bW) 0]), (8, ptrAt (pb b8) 0)]) (fun x => colls [x.2])
    (fun x wr => Sep w wr (pDef x.2 :: wksL b9 b8 bW b6 b4 kk (x.1 : Int) q qw qg cc cw cg L G W)) ?_ ?_
  · refine wcrangef (cap := [ptrAt (pb bW) 0]) rfl rfl ?_
    intro fn lr D wa hD hlr hne2 hfa hLo hN
    obtain ⟨rc, hrc, hLo⟩ := loop_fam hLo
    replace hS := hS.loop hfa hLo hN hlr hD hne2
    have hfeet := hS.feet_lt
    have hsz2 := hS.frm.size
    have h1 := walk1_ok21 lr wa.heap.size bW L q cc hLw hcap hfit hLs
      (fun i w' => Sep w w' (pLoop lr (rc .ready none) :: pDef D :: wksL b9 b8 bW b6 b4 kk (i : Int) q qw qg cc cw cg L G W))
      (fun i w' => Sep w w' (pLoop lr (rc .done (some (.exit 0))) :: pDef D :: wksL b9 b8 bW b6 b4 kk ((i + 1 : Nat) : Int) q qw qg cc cw cg L G W))
      (fun i w1 w2 h h' => h.same h' hsz2 hfeet) (fun i w1 w2 h h' => h.same h' hsz2 hfeet) (fun i w' h => ⟨h.own 4 rfl, Sep.treL h 5 6 rfl rfl⟩) ?_ wa rfl hS
    · refine CallsR.mono h1 ?_
      rw [hWe]
      rintro v wb (hJ | ⟨j, hj, hJx⟩)
      · refine ⟨.ready, none, by simp, by rw [← hrc]; exact hJ.loopAt 0 rfl, fun wc hlc => aft_none ?_⟩
        have hS := Sep.lose hJ hlc
        exact blk_normal (thn_normal ⟨(Wk.length, D), rfl, ⟨rfl, rfl, rfl, rfl, rfl, rfl, trivial⟩, hS⟩)
      · refine ⟨.done, some (.exit 0), by simp, by rw [← hrc]; exact hJx.loopAt 0 rfl, fun wc hlc => aft_exit ?_⟩
        have hS := Sep.lose hJx hlc
        exact blk_here (thn_normal ⟨(j + 1, D), rfl, ⟨rfl, rfl, rfl, rfl, rfl, rfl, trivial⟩, hS⟩)
    · subst hrc
      rintro i w1 way nd h hx q2 c2 ⟨n, t, es, ap, ac, ks, kp2, kc⟩ w' hm2 hS2
      rw [hWe] at hx
      obtain ⟨kp, hkp, hk⟩ := h.keep1
      have hS3 := hk.seq hS2
      have hlt : i < Wk.length := (List.getElem?_eq_some_iff.1 hx).1
      have hwy := hway _ (List.mem_of_getElem? hx)
      simp only [List.length_nil] at hwy
      have hw1 := hS2.frm.size
      refine yld_of (hS3.loopAt 3 rfl) rfl (by kernel_rfl) ?_
      refine sgo ?_
      refine wlalloc fun b11 w3 hb11 ho11 hf11 => ?_
      have hS := hS3.push (c := pOwn b11 _) hf11 ho11 (by simpa [pOwn] using hb11)
      refine sgo ?_
      refine ssta (vs := [str n, str t, .slice ap es.length ac, .slice kp2 ks.len kc]) hS 0 fun w4 hS => ?_
      replace hS : Sep w w4 (pOwn b11 [str n, str t, .slice ap es.length ac, .slice kp2 ks.len kc] :: pRow 1 q2 way.length c2 (ints way) :: pMany (NdM.rows ⟨n, t, es, ap, ac, ks, kp2, kc⟩) :: kp :: pLoop lr _ :: pDef D :: wksL b9 b8 bW b6 b4 kk (i : Int) q qw qg cc cw cg L G W) := hS
      have hfin : ∀ {wz : World} {cz : List Plot} {vs : List Value} {y z : Plot} {st : Loop}, Sep w wz (pOwn b11 vs :: y :: z :: kp :: pLoop lr st :: cz) → ∃ N, Le N w1 wz ∧ ∀ x ∈ N, x < wa.heap.size := by
        intro wz cz vs y z st hz
        rw [hkp] at hz
        refine ⟨_, Sep.kept h hz (List.Mem.tail _ (List.Mem.tail _ (List.Mem.tail _ (List.Mem.head _)))) ?_, hfeet⟩
        have := hz.lt (List.Mem.head _) b11 (List.Mem.head _)
        omega
      refine sgo ?_
      refine ⟨hS.loopAt 4 rfl, fun w5 hl5 hL5 => ?_⟩
      obtain ⟨rb, hrb, hL5⟩ : ∃ rb : Loop, rb = _ ∧ LoopAt w5 lr rb := ⟨_, rfl, hL5⟩
      replace hS := hS.turnLoop 4 rfl hl5 hL5
      replace hS : Sep w w5 (pOwn b11 [str n, str t, .slice ap es.length ac, .slice kp2 ks.len kc] :: pRow 1 q2 way.length c2 (ints way) :: pMany (NdM.rows ⟨n, t, es, ap, ac, ks, kp2, kc⟩) :: kp :: pLoop lr rb :: pDef D :: wksL b9 b8 bW b6 b4 kk (i : Int) q qw qg cc cw cg L G W) := hS
      have hs6 : Sg w5 (pb b6) [.slice qw W.length cw] := (hS.own 11 rfl).sg
      have hs8 : Sg w5 (pb b8) [int i] := (hS.own 7 rfl).sg
      have hs11 : Sg w5 (pb b11) [str n, str t, .slice ap es.length ac, .slice kp2 ks.len kc] := (hS.own 0 rfl).sg
      have hI := is_at hW hWa (by omega) hx (by omega) hm2 qw cw q2 c2 w5 (hT.frm hS.frm) (hS.im 12 rfl) (hS.many 13 rfl) (hS.im 1 rfl) (hS.many 2 rfl)
      refine sgo ?_
      refine wlpure hI fun w6 hf6 => ?_
      clear hI hs6 hs8 hs11
      replace hS := hS.grow hf6
      refine sgo ?_
      refine wcloop (X := Nat × List Value) (fun x => [(4, ptrAt (pb b4) 0), (8, ptrAt (pb b8) 0), (9, ptrAt (pb b9) 0), (10, .slice q2 way.length c2), (36, int way.length), (37, int x.1)])
        (fun x wr => x.1 ≤ way.length ∧ Sep w wr (pOwn b11 [str n, str t, .slice ap es.length ac, .slice kp2 ks.len kc] :: pRow 1 q2 way.length c2 x.2 :: pMany (NdM.rows ⟨n, t, es, ap, ac, ks, kp2, kc⟩) :: kp :: pLoop lr rb :: pDef D :: wksL b9 b8 bW b6 b4 kk (i : Int) q qw qg cc cw cg L G W))
        (fun x => way.length - x.1) (0, ints way) ⟨rfl, rfl, rfl, rfl, rfl, rfl, trivial⟩ ⟨Nat.zero_le _, hS⟩ ?_
      clear hS
      rintro ⟨j, xs⟩ wr2 ρ4 ⟨hjl, hS⟩
      dsimp only at *
      refine sgo ?_
      (show WC _ _ _ _ _ _ _; first | refine WC_dec rfl (fun hc => ?_) (fun hc => ?_) | refine WC_cond rfl (fun hc => ?_) (fun hc => ?_))
      · have hlt2 : j < way.length := by omega
        have hxl : xs.length = way.length * 1 := (hS.row 1 rfl).len
        have hqp : ∃ a, q2 = some a := (hS.row 1 rfl).sg.some (by omega)
        clear hc
        refine sgo ?_
        refine srst (v := int (-1)) (j := j) hS 1 (fun w6 hS => ?_) (hk := by omega)
        refine sgo ?_
        exact ⟨(j + 1, _), ⟨rfl, rfl, rfl, rfl, rfl, rfl, trivial⟩, ⟨hlt2, hS⟩, (by (try dsimp only); omega)⟩
      · clear hc
        have hs8 : Sg wr2 (pb b8) [int i] := (hS.own 7 rfl).sg
        refine sgo ?_
        refine sst_int hS 7 fun w7 hS => ?_
        have e1 : (i : Int) + 1 = ((i + 1 : Nat) : Int) := by omega
        replace hS : Sep w w7 (pOwn b11 [str n, str t, .slice ap es.length ac, .slice kp2 ks.len kc] :: pRow 1 q2 way.length c2 xs :: pMany (NdM.rows ⟨n, t, es, ap, ac, ks, kp2, kc⟩) :: kp :: pLoop lr rb :: pDef D :: wksL b9 b8 bW b6 b4 kk ((i + 1 : Nat) : Int) q qw qg cc cw cg L G W) := by rw [← e1]; exact hS
        have hs8b : Sg w7 (pb b8) [int ((i + 1 : Nat) : Int)] := (hS.own 7 rfl).sg
        have hs9 : Sg w7 (pb b9) [int kk] := (hS.own 6 rfl).sg
        refine sgo ?_
        (show WC _ _ _ _ _ _ _; first | refine WC_dec rfl (fun hc => ?_) (fun hc => ?_) | refine WC_cond rfl (fun hc => ?_) (fun hc => ?_))
        · refine sgo ?_
          subst hrb
          refine rnd_exit (hS.loopAt 4 rfl) fun w9 hl9 hL9 => ?_
          replace hS := hS.turnLoop 4 rfl hl9 hL9
          obtain ⟨N, g1, g2⟩ := hfin hS
          exact ⟨N, g1, g2, (((hS.drop 0 rfl).drop 0 rfl).drop 0 rfl).drop 0 rfl⟩
        · refine sgo ?_
          subst hrb
          refine rnd_normal (hS.loopAt 4 rfl) fun w9 hl9 hL9 => ?_
          replace hS := hS.turnLoop 4 rfl hl9 hL9
          obtain ⟨N, g1, g2⟩ := hfin hS
          exact ⟨N, g1, g2, (((hS.drop 0 rfl).drop 0 rfl).drop 0 rfl).drop 0 rfl⟩
  clear hS
  rintro ⟨n1, D1⟩ w11 ρ2 hS
  dsimp only at *
  refine sgo ?_
  refine sst_int hS 2 fun w12 hS => ?_
  replace hS : Sep w w12 (pDef D1 :: wksL b9 b8 bW b6 b4 kk ((0 : Nat) : Int) q qw qg cc cw cg L G W) := hS
  refine sgo ?_
  refine wcutk (X := Nat) (fun x => [(0, .slice p f.len c), (4, ptrAt (pb b4) 0), (5, .slice qg G.length cg), (6, ptrAt (pb b6) 0), (8, ptrAt (pb b8) 0)]) (fun x => colls [x, D1])
    (fun x wr => Sep w wr (pDef x :: pDef D1 :: wksL b9 b8 bW b6 b4 kk (Wk.length : Int) q qw qg cc cw cg L G W)) ?_ ?_
  · refine wcrangef (cap := [ptrAt (pb bW) 0]) rfl rfl ?_
    intro fn lr D wa hD hlr hne2 hfa hLo hN
    obtain ⟨rc, hrc, hLo⟩ := loop_fam hLo
    replace hS := hS.loop hfa hLo hN hlr hD hne2
    have hfeet := hS.feet_lt
    have hsz2 := hS.frm.size
    have h1 := walk1_ok21 lr wa.heap.size bW L q cc hLw hcap hfit hLs
      (fun i w' => Sep w w' (pLoop lr (rc .ready none) :: pDef D :: pDef D1 :: wksL b9 b8 bW b6 b4 kk (i : Int) q qw qg cc cw cg L G W))
      (fun _ _ => False) (fun i w1 w2 h h' => h.same h' hsz2 hfeet) (fun _ _ _ h _ => h.elim) (fun i w' h => ⟨h.own 5 rfl, Sep.treL h 6 7 rfl rfl⟩) ?_ wa rfl hS
    · refine CallsR.mono h1 ?_
      rw [hWe]
      rintro v wb hor
      have hJ := hor.resolve_right fun ⟨_, _, h⟩ => h
      refine ⟨.ready, none, by simp, by rw [← hrc]; exact hJ.loopAt 0 rfl, fun wc hlc => aft_none ?_⟩
      have hS := Sep.lose hJ hlc
      exact blk_normal (thn_normal ⟨D, rfl, ⟨rfl, rfl, rfl, rfl, rfl, trivial⟩, hS⟩)
    · subst hrc
      rintro i w1 way nd h hx q2 c2 ⟨n, t, es, ap, ac, ks, kp2, kc⟩ w' hm2 hS2
      rw [hWe] at hx
      obtain ⟨kp, hkp, hk⟩ := h.keep1
      have hS3 := hk.seq hS2
      have hlt : i < Wk.length := (List.getElem?_eq_some_iff.1 hx).1
      have hwy := hway _ (List.mem_of_getElem? hx)
      simp only [List.length_nil] at hwy
      have hw1 := hS2.frm.size
      refine yld_of (hS3.loopAt 3 rfl) rfl (by kernel_rfl) ?_
      refine sgo ?_
      refine wlalloc fun b11 w3 hb11 ho11 hf11 => ?_
      have hS := hS3.push (c := pOwn b11 _) hf11 ho11 (by simpa [pOwn] using hb11)
      refine sgo ?_
      refine ssta (vs := [str n, str t, .slice ap es.length ac, .slice kp2 ks.len kc]) hS 0 fun w4 hS => ?_
      replace hS : Sep w w4 (pOwn b11 [str n, str t, .slice ap es.length ac, .slice kp2 ks.len kc] :: pRow 1 q2 way.length c2 (ints way) :: pMany (NdM.rows ⟨n, t, es, ap, ac, ks, kp2, kc⟩) :: kp :: pLoop lr _ :: pDef D :: pDef D1 :: wksL b9 b8 bW b6 b4 kk (i : Int) q qw qg cc cw cg L G W) := hS
      have hfin : ∀ {wz : World} {cz : List Plot} {vs : List Value} {y z : Plot} {st : Loop}, Sep w wz (pOwn b11 vs :: y :: z :: kp :: pLoop lr st :: cz) → ∃ N, Le N w1 wz ∧ ∀ x ∈ N, x < wa.heap.size := by
        intro wz cz vs y z st hz
        rw [hkp] at hz
        refine ⟨_, Sep.kept h hz (List.Mem.tail _ (List.Mem.tail _ (List.Mem.tail _ (List.Mem.head _)))) ?_, hfeet⟩
        have := hz.lt (List.Mem.head _) b11 (List.Mem.head _)
        omega
      refine sgo ?_
      refine ⟨hS.loopAt 4 rfl, fun w5 hl5 hL5 => ?_⟩
      obtain ⟨rb, hrb, hL5⟩ : ∃ rb : Loop, rb = _ ∧ LoopAt w5 lr rb := ⟨_, rfl, hL5⟩
      replace hS := hS.turnLoop 4 rfl hl5 hL5
      replace hS : Sep w w5 (pOwn b11 [str n, str t, .slice ap es.length ac, .slice kp2 ks.len kc] :: pRow 1 q2 way.length c2 (ints way) :: pMany (NdM.rows ⟨n, t, es, ap, ac, ks, kp2, kc⟩) :: kp :: pLoop lr rb :: pDef D :: pDef D1 :: wksL b9 b8 bW b6 b4 kk (i : Int) q qw qg cc cw cg L G W) := hS
      have hs6 : Sg w5 (pb b6) [.slice qw W.length cw] := (hS.own 12 rfl).sg
      have hs8 : Sg w5 (pb b8) [int i] := (hS.own 8 rfl).sg
      have hs11 : Sg w5 (pb b11) [str n, str t, .slice ap es.length ac, .slice kp2 ks.len kc] := (hS.own 0 rfl).sg
      have hI := is_at hW hWa (by omega) hx (by omega) hm2 qw cw q2 c2 w5 (hT.frm hS.frm) (hS.im 13 rfl) (hS.many 14 rfl) (hS.im 1 rfl) (hS.many 2 rfl)
      refine sgo ?_
      refine wlpure hI fun w6 hf6 => ?_
      clear hI hs6 hs8 hs11
      replace hS := hS.grow hf6
      have hs8 : Sg w6 (pb b8) [int i] := (hS.own 8 rfl).sg
      refine sgo ?_
      refine sst_int hS 8 fun w7 hS => ?_
      have e1 : (i : Int) + 1 = ((i + 1 : Nat) : Int) := by omega
      replace hS : Sep w w7 (pOwn b11 [str n, str t, .slice ap es.length ac, .slice kp2 ks.len kc] :: pRow 1 q2 way.length c2 (ints way) :: pMany (NdM.rows ⟨n, t, es, ap, ac, ks, kp2, kc⟩) :: kp :: pLoop lr rb :: pDef D :: pDef D1 :: wksL b9 b8 bW b6 b4 kk ((i + 1 : Nat) : Int) q qw qg cc cw cg L G W) := by rw [← e1]; exact hS
      refine sgo ?_
      subst hrb
      refine rnd_normal (hS.loopAt 4 rfl) fun w9 hl9 hL9 => ?_
      replace hS := hS.turnLoop 4 rfl hl9 hL9
      obtain ⟨N, g1, g2⟩ := hfin hS
      exact ⟨N, g1, g2, (((hS.drop 0 rfl).drop 0 rfl).drop 0 rfl).drop 0 rfl⟩
  clear hS
  rintro D2 w13 ρ3 hS
  have hs6 : Sg w13 (pb b6) [.slice qw W.length cw] := (hS.own 7 rfl).sg
  have hs8 : Sg w13 (pb b8) [int (Wk.length : Int)] := (hS.own 3 rfl).sg
  refine sgo ?_
  have hE := refEqual21_ok ((FoM.of G).size + 1) (FoM.of G) f qg p cg c (Nat.lt_succ_self _) hGw hw w13 (Sep.treL hS 10 11 rfl rfl) (hT.frm hS.frm)
  rw [len_of, decide_eq_true hGf] at hE
  refine wlcallgp (vals := [.slice qg G.length cg, .slice p f.len c]) (fun _ => hE) fun w14 hf14 => ?_
  clear hE hs6 hs8
  replace hS := hS.grow hf14
  refine sgo ?_
  refine wlcallgp (vals := []) (fun _ => lives21_ok _ (hA.frm hS.frm)) (fun w15 hf15 => ?_) (ha := fun _ => rfl)
  replace hS := hS.grow hf15
  refine sgo ?_
  rw [hWl]
  refine sst_bool hS 12 fun w16 hS => ?_
  refine sgo ?_
  refine fp_marks (.inl rfl) [D2, D1] _ hS fun w17 hS => ?_
  exact fpc1 (.inl rfl) rfl rfl rfl (hS.own 10 rfl) ⟨by simp [pkb], hS.frm⟩
end Go.Proofs.YtcdogceabkpnmaaDoor

/-
  Readings of arguments of one cell: numbers, truth values.
-/
set_option linter.unusedSimpArgs false
set_option linter.unusedVariables false
set_option linter.unnecessarySimpa false
namespace Go.Proofs.YtcdogceabkpnmaaDoor
open Go Go.Sv Go.RowKit Go.ChangeShapes Go.WideShapes Go.Deep
set_option maxRecDepth 100000 in
theorem open_uint1 {H : Type} {enc : TypeId × Value → H} {w : World} {base : Nat} {spare : Nat → Bool} {held : Bool} {v : Value} {d : DataW H} {ps : List MemPlace} {r : Reach} {b0 : Nat} (hv : Value.okWide Tryd.prog w r b0 23 v) (h : DataW.Trod enc Tryd.prog w base spare held 23 v d ps) :
    ∃ n : Int, v = .int .u64 n ∧ IntKind.min .u64 ≤ n ∧ n ≤ IntKind.max .u64 ∧ 1 ≤ Rows.uptoBulk d := by
  obtain ⟨s, rfl⟩ := okWide_int Tryd.underlying23 hv
  obtain ⟨fuel, hf⟩ := h
  obtain ⟨l, e, h1, h2, hw⟩ := open_intc Tryd.underlying23 hf
  dsimp only at hw
  exact ⟨l, by simpa [Value.cells] using e, h1, h2, by omega⟩
end Go.Proofs.YtcdogceabkpnmaaDoor

