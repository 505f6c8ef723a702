/-
  Our texts SvBaQ, SvPost, SvOpen, SvOpn07, SvOpnB, SvOpn, SvAsc, SvAscW, joined.
-/
import Derived.Test.YtmnnffenijjpcaaGreatDoorMg8
import Derived.ChangeSame
import Derived.Test.YtmnnffenijjpcaaGreatDoorRows
import Derived.WalkKit
import Derived.ProofKit
import Derived.OpenShut
import Derived.JoinedCond
import Derived.Deep.Slices
import Derived.WideKeyArgs
import Derived.Lib.LaidTab
import Derived.Deep.DeepHandedRow
import Derived.Deep.DeepWitnessRowRef
/-
  sievelaw17: BalanceTakes.
-/
set_option linter.unusedSimpArgs false
set_option linter.unusedVariables false
set_option linter.unnecessarySimpa false
namespace Go.Proofs.YtmnnffenijjpcaaGreatDoor
open Go Go.Sv Go.RowKit

def btP (b b2 : Nat) (qt2 q3 qf2 qf3 : Option Addr) (ct2 c3 cf2 cf3 : Nat) (ms2 es3 : List EvM) (o : OutB) (qo3 qg3 : Option Addr) (co3 cg3 : Nat) : PlanB (Option Addr × Nat) where
  pl k d := match k with
    | 16 => [pRow 1 d.x.1 o.s.op.length d.x.2 (strs o.s.op)]
    | 26 => [pRow 1 d.x.1 o.s.gh.length d.x.2 (strs o.s.gh)]
    | _ => []
  con k := match k with
    | 16 => some 21
    | 26 => some 31
    | _ => none
  base k := match k with
    | _ => []
  fact k a := match k with
    | 0 => (a 0).v = int 0
    | 1 => (a 1).v = .bool false
    | 2 => (a 2).v = .bool false
    | 3 => (a 3).v = .slice qt2 ms2.length ct2
    | 4 => (a 4).v = .slice q3 es3.length c3
    | 5 => (a 5).v = .bool true
    | 6 => (a 6).v = .bool false
    | 7 => (a 7).v = .bool false
    | 8 => (a 8).v = .bool false
    | 9 => (a 9).v = .slice qf2 o.fs.length cf2
    | 10 => (a 10).v = .slice qf3 o.fs.length cf3
    | 11 => (a 11).v = .bool true
    | 12 => (a 12).v = .bool false
    | 13 => (a 13).v = .bool false
    | 14 => (a 14).v = .bool false
    | 15 => (a 15).v = ptrAt (pb b) 0
    | 16 => (a 16).v = .slice (a 16).x.1 o.s.op.length (a 16).x.2
    | 17 => (a 17).v = ptrAt (pb b2) 0
    | 18 => (a 18).v = ptrAt (pb b2) 0
    | 19 => (a 19).v = ptrAt (pb b2) 1
    | 20 => (a 20).v = .slice qo3 o.s.op.length co3
    | 21 => (a 21).v = .bool true
    | 22 => (a 22).v = .bool false
    | 23 => (a 23).v = .bool false
    | 24 => (a 24).v = .bool false
    | 25 => (a 25).v = ptrAt (pb b) 0
    | 26 => (a 26).v = .slice (a 26).x.1 o.s.gh.length (a 26).x.2
    | 27 => (a 27).v = ptrAt (pb b2) 0
    | 28 => (a 28).v = ptrAt (pb b2) 0
    | 29 => (a 29).v = ptrAt (pb b2) 2
    | 30 => (a 30).v = .slice qg3 o.s.gh.length cg3
    | 31 => (a 31).v = .bool true
    | 32 => (a 32).v = .bool false
    | 33 => (a 33).v = .bool false
    | _ => True
/-- the pieces of a balancer and of a state, ahead of a token -/
def twP (b b2 : Nat) (s : BaS) (k : Nat) (qo : Option Addr) (co : Nat) (qg : Option Addr) (cg : Nat) (vt : Value) (fl : List Fi) (qf : Option Addr) (cf : Nat) (qo2 : Option Addr) (co2 : Nat) (qg2 : Option Addr) (cg2 : Nat) (ov2 : Bool) : List Plot :=
  kP b s qo co qg cg k false vt (.slice qf fl.length cf) (pRow 5 qf fl.length cf (fl.flatMap Fi.cells) :: (StM.mk s qo2 co2 qg2 cg2 k ov2).plots b2 [])
set_option maxHeartbeats 8000000 in
theorem balanceTakes_ok (d : Int) (ms : List TokM) (p : Option Addr) (c : Nat) (hw : wts ms ≤ 1048576) (w : World) (hA : Asc w) (hT : Toks w p ms) : PureC Tryz.prog 5 #[int d, .slice p ms.length c] w (.bool true) := by
  have hn : ms.length ≤ 1048576 := Nat.le_trans (sum_len (fun m : TokM => m.t.wt) ms (fun m _ => by show 1 ≤ Tok.wt _; unfold Tok.wt; omega)) hw
  have hs : ∀ m ∈ ms, m.t.small := fun m hm => small_of_wt (Nat.le_trans (sum_mem (fun m : TokM => m.t.wt) ms hm) hw)
  have hfl := fm_len TokM.len ms
  clear hw
  by_cases hbd : d < 1 ∨ 512 < d
  · have hF := Frm.refl w
    refine enter (l := [int d, .slice p ms.length c]) Tryz.func5 rfl Tryz.ntmps5 (by kernel_rfl) rfl ?_
    refine sgo ?_
    refine wlpure (bNewBad_ok d hbd _) fun w2 hf2 => ?_
    refine sgo ?_
    refine wcyes ?_ (ht := by rw [pkb_or, Bool.or_eq_true, decide_eq_true_eq, decide_eq_true_eq]; exact hbd)
    refine sgo ?_
    refine wl ?_ (y_pnil rfl rfl)
    refine sgo ?_
    refine wlcallgp (vals := []) (fun _ => lives17_ok _ (hA.frm hf2)) (fun w6 hf6 => ?_) (ha := fun _ => rfl)
    have hF6 := hf2.trans hf6
    refine sgo ?_
    (first | refine fp1 (.inl rfl) rfl rfl ?_ | refine fp2 (.inl rfl) rfl rfl rfl ?_ | refine fp3 (.inl rfl) rfl rfl rfl rfl ?_ | refine fp0 (.inr rfl) rfl ?_ | refine fp0 (.inl rfl) rfl ?_ | refine fp1 (.inr rfl) rfl rfl ?_); refine ⟨?_, by (first | exact Frm.refl _ | assumption | exact Go.Sv.Sep.frm (by assumption) | (refine Frm.trans ?_ (by assumption); first | exact Frm.refl _ | assumption))⟩; (try simp only [realB, rv_true, Nat.reduceBEq, cond_true, cond_false, entG, real_lif, updGL])
    simp [pkb]
  have hd : d = ((d.toNat : Nat) : Int) := by omega
  have hk : 1 ≤ d.toNat ∧ d.toNat ≤ 512 := by omega
  generalize d.toNat = k at *
  subst hd
  refine enter (l := [int k, .slice p ms.length c]) Tryz.func5 rfl Tryz.ntmps5 (by kernel_rfl) rfl ?_
  refine sgo ?_
  refine wlcall (bNew_ok k hk w w [] (Sep.start w)) ?_
  rintro _ w1 ⟨b, rfl, hS⟩
  refine sgo ?_
  refine wcno ?_ (ht := by rw [pkb_or, Bool.or_eq_false_iff, decide_eq_false_iff_not, decide_eq_false_iff_not]; omega)
  refine sgo ?_
  refine wl ?_ (y_pnil rfl rfl)
  rw [show (Option.map (fun x : Addr => x.add 0) (pb b)).isNone = false from rfl]
  refine sgo ?_
  refine wlbuild (cells := [int k, .slice none 0 0, .slice none 0 0, .bool false, .bool false]) ?_
  refine sgo ?_
  refine sbox (v := .agg ⟨[int k, .slice none 0 0, .slice none 0 0, .bool false, .bool false]⟩) hS fun b2 w2 hS => ?_
  replace hS : Sep w w2 (pOwn b2 [int k, .slice none 0 0, .slice none 0 0, .bool false, .bool false] :: (newM k).plots b []) := hS
  have hS0 : Sep w w2 (twP b b2 ba0 k none 0 none 0 (.slice none 0 0) [] none 0 none 0 none 0 false) := by
    have h2 := ((hS.sel 7 [1, 2, 3, 6, 0]).nilVw none).nilVw none
    exact h2.sel 7 [2, 3, 4, 5, 6, 0, 1]
  repeat clear hS
  refine sgo ?_
  refine wcloop (X := Nat) (fun i => [(5, ptrAt (pb b) 0), (6, int 0), (7, ptrAt (pb b2) 0), (52, .slice p ms.length c), (53, int ms.length), (54, int i)])
    (fun i wr => i ≤ ms.length ∧ ∃ (s : BaS) (qo : Option Addr) (co : Nat) (qg : Option Addr) (cg : Nat) (vt : Value) (fl : List Fi) (qf : Option Addr) (cf : Nat) (qo2 : Option Addr) (co2 : Nat) (qg2 : Option Addr) (cg2 : Nat) (ov2 : Bool), PosR k (s.op, s.fr) ∧ s.gh.length ≤ i ∧ s.op.length ≤ co ∧ s.gh.length ≤ cg ∧ s.op.length ≤ co2 ∧ s.gh.length ≤ cg2 ∧ Sep w wr (twP b b2 s k qo co qg cg vt fl qf cf qo2 co2 qg2 cg2 ov2))
    (fun i => ms.length - i) 0 ⟨rfl, rfl, rfl, rfl, rfl, rfl, trivial⟩ ⟨Nat.zero_le _, ba0, none, 0, none, 0, .slice none 0 0, [], none, 0, none, 0, none, 0, false, pos0 k, Nat.le_refl _, Nat.le_refl _, Nat.le_refl _, Nat.le_refl _, Nat.le_refl _, hS0⟩ ?_
  clear hS0
  rintro i wr ρ ⟨hil, s, qo, co, qg, cg, vt, fl, qf, cf, qo2, co2, qg2, cg2, ov2, hpos, hgi, hco, hcg, hco2, hcg2, hS⟩
  have hIm := hT.im.frm hS.frm
  refine sgo ?_
  (show WC _ _ _ _ _ _ _; first | refine WC_dec rfl (fun hc => ?_) (fun hc => ?_) | refine WC_cond rfl (fun hc => ?_) (fun hc => ?_))
  · have hlt : i < ms.length := by omega
    have hx : ms[i]? = some ms[i] := List.getElem?_eq_getElem hlt
    have hmem : ms[i] ∈ ms := List.getElem_mem hlt
    have hseg := fm_seg TokM.len ms hx
    have hat := hT.each _ hmem
    have hsm := hs _ hmem
    have hps : ∃ a, p = some a := hIm.some (by omega)
    generalize ms[i] = m at *
    clear hc
    obtain ⟨t, mp, mc⟩ := m
    dsimp only at hat hsm
    have hmay := fun w' hf => may_ok t mp mc hsm w' (hat.frm hf)
    cases hmy : mayR t with
    | false =>
      have hbad := fun w' cs' (h : Sep w w' (kP b s qo co qg cg k false vt (.slice qf fl.length cf) cs')) => bTakeBad_ok (ptrAt (pb b) 0) t mp mc hmy hsm w' (hat.frm h.frm) (fun w2 hf2 => ready_kp (b := b) (s := s) (qo := qo) (co := co) (qg := qg) (cg := cg) (dp := k) (ov := false) (vt := vt) (vf := .slice qf fl.length cf) (h.grow hf2))
      rw [hmy] at hmay
      obtain ⟨tk, nm, tx, te, tf, ta, tb, td⟩ := t
      refine sgo ?_
      rw [hseg]
      refine salloc hS fun b5 w5 hS => ?_
      refine sgo ?_
      refine ssta (vs := [int tk, str nm, str tx, .slice mp te.length mc, .bool tf, int ta, int tb, int td]) hS 0 fun w6 hS => ?_
      replace hS : Sep w w6 (pOwn b5 [int tk, str nm, str tx, .slice mp te.length mc, .bool tf, int ta, int tb, int td] :: twP b b2 s k qo co qg cg vt fl qf cf qo2 co2 qg2 cg2 ov2) := hS
      refine sgo ?_
      refine wlpure (hbad _ _ hS.tail) fun w7 hf7 => ?_
      replace hS := hS.grow hf7
      refine sgo ?_
      refine wlpure (hmay _ hS.frm) fun w8 hf8 => ?_
      replace hS := hS.grow hf8
      refine sgo ?_
      exact ⟨i + 1, ⟨rfl, rfl, rfl, rfl, rfl, rfl, trivial⟩, ⟨hlt, s, qo, co, qg, cg, vt, fl, qf, cf, qo2, co2, qg2, cg2, ov2, hpos, by omega, hco, hcg, hco2, hcg2, hS.tail⟩, (by (try dsimp only); omega)⟩
    | true =>
      have hop512 : s.op.length ≤ 512 := Nat.le_trans hpos.2 hk.2
      have htake := fun w' cs' hS' => bTake_ok b s qo co qg cg k vt (.slice qf fl.length cf) t mp mc hmy hsm hpos.1 hco hcg (by omega) (by omega) (by omega) w w' cs' hA hat hS'
      have hstake := fun w' cs' hS' => sTake_ok (StM.mk s qo2 co2 qg2 cg2 k ov2) b2 t mp mc hsm hpos.1 hco2 hcg2 (by dsimp only; omega) (by dsimp only; omega) (by dsimp only; omega) w w' cs' hat hS'
      have hgood := take_good (depth := k) s t hpos.1 hmy hsm
      have hpos2 := hgood.right hpos
      have hgsm := goods_small hgood
      have htl := take_len k s t
      have htf := take_fs k s t
      rw [hmy] at hmay
      dsimp only at hstake
      generalize takeB k s t = o at *
      obtain ⟨tk, nm, tx, te, tf, ta, tb, td⟩ := t
      refine sgo ?_
      rw [hseg]
      refine salloc hS fun b5 w5 hS => ?_
      refine sgo ?_
      refine ssta (vs := [int tk, str nm, str tx, .slice mp te.length mc, .bool tf, int ta, int tb, int td]) hS 0 fun w6 hS => ?_
      replace hS : Sep w w6 (kP b s qo co qg cg k false vt (.slice qf fl.length cf) (pOwn b5 [int tk, str nm, str tx, .slice mp te.length mc, .bool tf, int ta, int tb, int td] :: (StM.mk s qo2 co2 qg2 cg2 k ov2).plots b2 [])) := hS.sel 8 [1, 2, 3, 0, 5, 6, 7]
      have ho5 := hS.own 3 rfl
      refine sgo ?_
      refine wlcall (htake _ _ hS) ?_
      clear htake ho5
      repeat clear hS
      rintro _ w7 ⟨⟨s4, qo4, co4, qg4, cg4, ms2, qt2, ct2, fs2, qf2, cf2, dp2, ov4⟩, rfl, g1, g2, g3, g4, g5, g6, g7, hS⟩
      dsimp only at g1 g2 g3 g4 g5 g6 g7 ⊢
      subst g1 g3 g4 g5
      have hm2 : ms2.length = o.es.length := by rw [← g2, evs_len]
      have ho5 := hS.own 6 rfl
      refine sgo ?_
      refine wlpure (hmay _ hS.frm) fun w8 hf8 => ?_
      replace hS := hS.grow hf8
      clear ho5
      have ho5 := hS.own 6 rfl
      refine sgo ?_
      replace hS : Sep w w8 ((StM.mk s qo2 co2 qg2 cg2 dp2 ov2).plots b2 ((BaM.mk o.s qo4 co4 qg4 cg4 ms2 qt2 ct2 o.fs qf2 cf2 dp2 false).plots b [pOwn b5 [int tk, str nm, str tx, .slice mp te.length mc, .bool tf, int ta, int tb, int td]])) := hS.sel 10 [7, 8, 9, 0, 1, 2, 3, 4, 5, 6]
      clear ho5
      have ho5 := hS.own 9 rfl
      refine sgo ?_
      refine wlcall (hstake _ _ hS) ?_
      clear hstake ho5 hmay hpos
      repeat clear hS
      rintro _ w9 ⟨⟨s3, qo3, co3, qg3, cg3, dp3, ov3⟩, es3, q3, c3, qf3, cf3, rfl, k1, k2, ⟨l1, l2, l3, l4, l5⟩, hS⟩
      dsimp only at l1 l2 l3 l4 l5 ⊢
      subst l1 l2
      have hoe : o.es.length ≤ 1024 := by omega
      have hol : o.s.op.length ≤ 512 := Nat.le_trans hpos2.2 hk.2
      have hsml : ∀ m ∈ ms2, m.e.attrs.length ≤ 1048576 := by
        intro m hm
        have : m.e ∈ o.es := by rw [← g2]; exact List.mem_map_of_mem hm
        exact (hgsm _ this).1.attrs
      have hopl : o.s.op.length ≤ 4194304 := by omega
      have hghl : o.s.gh.length ≤ 4194304 := by omega
      replace hS : Sep w w9 ([] ++ [pOwn b [.slice qo4 o.s.op.length co4, .slice qg4 o.s.gh.length cg4, .bool o.s.fr, .slice qt2 ms2.length ct2, int dp3, .slice qf2 o.fs.length cf2, .bool true, .bool false], pVw qo4 (strs o.s.op), pVw qg4 (strs o.s.gh), pRow 4 qt2 ms2.length ct2 (ms2.flatMap EvM.cells), pMany (ms2.map EvM.row), pRow 5 qf2 o.fs.length cf2 (o.fs.flatMap Fi.cells),
        pOwn b2 [int dp3, .slice qo3 o.s.op.length co3, .slice qg3 o.s.gh.length cg3, .bool o.s.fr, .bool ov3], pVw qo3 (strs o.s.op), pVw qg3 (strs o.s.gh), pRow 4 q3 es3.length c3 (es3.flatMap EvM.cells), pRow 5 qf3 o.fs.length cf3 (o.fs.flatMap Fi.cells)]) := hS.sel 12 [5, 6, 7, 8, 9, 10, 0, 1, 2, 3, 4]
      have hsame := fun w' (rest : List Plot) (h : Sep w w' ([pOwn b [.slice qo4 o.s.op.length co4, .slice qg4 o.s.gh.length cg4, .bool o.s.fr, .slice qt2 ms2.length ct2, int dp3, .slice qf2 o.fs.length cf2, .bool true, .bool false], pVw qo4 (strs o.s.op), pVw qg4 (strs o.s.gh), pRow 4 qt2 ms2.length ct2 (ms2.flatMap EvM.cells), pMany (ms2.map EvM.row), pRow 5 qf2 o.fs.length cf2 (o.fs.flatMap Fi.cells),
        pOwn b2 [int dp3, .slice qo3 o.s.op.length co3, .slice qg3 o.s.gh.length cg3, .bool o.s.fr, .bool ov3], pVw qo3 (strs o.s.op), pVw qg3 (strs o.s.gh), pRow 4 q3 es3.length c3 (es3.flatMap EvM.cells), pRow 5 qf3 o.fs.length cf3 (o.fs.flatMap Fi.cells)] ++ rest)) => same17_ok ms2 es3 qt2 q3 ct2 c3 (by omega) (g2.trans k1.symm) hsml w' (Sep.evs h 3 4 rfl rfl) ⟨h.im 9 rfl, fun m hm => (k2 m hm).frm h.frm⟩
      have hfind := fun w' (rest : List Plot) (h : Sep w w' ([pOwn b [.slice qo4 o.s.op.length co4, .slice qg4 o.s.gh.length cg4, .bool o.s.fr, .slice qt2 ms2.length ct2, int dp3, .slice qf2 o.fs.length cf2, .bool true, .bool false], pVw qo4 (strs o.s.op), pVw qg4 (strs o.s.gh), pRow 4 qt2 ms2.length ct2 (ms2.flatMap EvM.cells), pMany (ms2.map EvM.row), pRow 5 qf2 o.fs.length cf2 (o.fs.flatMap Fi.cells),
        pOwn b2 [int dp3, .slice qo3 o.s.op.length co3, .slice qg3 o.s.gh.length cg3, .bool o.s.fr, .bool ov3], pVw qo3 (strs o.s.op), pVw qg3 (strs o.s.gh), pRow 4 q3 es3.length c3 (es3.flatMap EvM.cells), pRow 5 qf3 o.fs.length cf3 (o.fs.flatMap Fi.cells)] ++ rest)) => findings17_ok o.fs qf2 qf3 cf2 cf3 (by omega) w' (h.im 5 rfl) (h.im 10 rfl)
      have hop := fun w' (rest : List Plot) (h : Sep w w' ((pOwn b [.slice qo4 o.s.op.length co4, .slice qg4 o.s.gh.length cg4, .bool o.s.fr, .slice qt2 ms2.length ct2, int dp3, .slice qf2 o.fs.length cf2, .bool true, .bool false] :: pVw qo4 (strs o.s.op) :: pVw qg4 (strs o.s.gh) :: [pRow 4 qt2 ms2.length ct2 (ms2.flatMap EvM.cells), pMany (ms2.map EvM.row), pRow 5 qf2 o.fs.length cf2 (o.fs.flatMap Fi.cells),
        pOwn b2 [int dp3, .slice qo3 o.s.op.length co3, .slice qg3 o.s.gh.length cg3, .bool o.s.fr, .bool ov3], pVw qo3 (strs o.s.op), pVw qg3 (strs o.s.gh), pRow 4 q3 es3.length c3 (es3.flatMap EvM.cells), pRow 5 qf3 o.fs.length cf3 (o.fs.flatMap Fi.cells)]) ++ rest)) => bOpen_ok b o.s.op qo4 co4 _ _ _ _ _ _ hopl w' (h.own 0 rfl) (h.vw 1 rfl)
      have hgo := fun w' (rest : List Plot) (h : Sep w w' ((pOwn b [.slice qo4 o.s.op.length co4, .slice qg4 o.s.gh.length cg4, .bool o.s.fr, .slice qt2 ms2.length ct2, int dp3, .slice qf2 o.fs.length cf2, .bool true, .bool false] :: pVw qo4 (strs o.s.op) :: pVw qg4 (strs o.s.gh) :: [pRow 4 qt2 ms2.length ct2 (ms2.flatMap EvM.cells), pMany (ms2.map EvM.row), pRow 5 qf2 o.fs.length cf2 (o.fs.flatMap Fi.cells),
        pOwn b2 [int dp3, .slice qo3 o.s.op.length co3, .slice qg3 o.s.gh.length cg3, .bool o.s.fr, .bool ov3], pVw qo3 (strs o.s.op), pVw qg3 (strs o.s.gh), pRow 4 q3 es3.length c3 (es3.flatMap EvM.cells), pRow 5 qf3 o.fs.length cf3 (o.fs.flatMap Fi.cells)]) ++ rest)) => bGhosts_ok b o.s.gh qg4 cg4 _ _ _ _ _ _ hghl w' (h.own 0 rfl) (h.vw 2 rfl)
      have hcells := fun w' (rest : List Plot) (h : Sep w w' ([pOwn b [.slice qo4 o.s.op.length co4, .slice qg4 o.s.gh.length cg4, .bool o.s.fr, .slice qt2 ms2.length ct2, int dp3, .slice qf2 o.fs.length cf2, .bool true, .bool false], pVw qo4 (strs o.s.op), pVw qg4 (strs o.s.gh), pRow 4 qt2 ms2.length ct2 (ms2.flatMap EvM.cells), pMany (ms2.map EvM.row), pRow 5 qf2 o.fs.length cf2 (o.fs.flatMap Fi.cells),
        pOwn b2 [int dp3, .slice qo3 o.s.op.length co3, .slice qg3 o.s.gh.length cg3, .bool o.s.fr, .bool ov3], pVw qo3 (strs o.s.op), pVw qg3 (strs o.s.gh), pRow 4 q3 es3.length c3 (es3.flatMap EvM.cells), pRow 5 qf3 o.fs.length cf3 (o.fs.flatMap Fi.cells)] ++ rest)) => (Own.sg (h.own 6 rfl) : Sg w' (pb b2) [int dp3, .slice qo3 o.s.op.length co3, .slice qg3 o.s.gh.length cg3, .bool o.s.fr, .bool ov3])
      have hvo := fun w' (rest : List Plot) (h : Sep w w' ([pOwn b [.slice qo4 o.s.op.length co4, .slice qg4 o.s.gh.length cg4, .bool o.s.fr, .slice qt2 ms2.length ct2, int dp3, .slice qf2 o.fs.length cf2, .bool true, .bool false], pVw qo4 (strs o.s.op), pVw qg4 (strs o.s.gh), pRow 4 qt2 ms2.length ct2 (ms2.flatMap EvM.cells), pMany (ms2.map EvM.row), pRow 5 qf2 o.fs.length cf2 (o.fs.flatMap Fi.cells),
        pOwn b2 [int dp3, .slice qo3 o.s.op.length co3, .slice qg3 o.s.gh.length cg3, .bool o.s.fr, .bool ov3], pVw qo3 (strs o.s.op), pVw qg3 (strs o.s.gh), pRow 4 q3 es3.length c3 (es3.flatMap EvM.cells), pRow 5 qf3 o.fs.length cf3 (o.fs.flatMap Fi.cells)] ++ rest)) => (h.vw 7 rfl : Im [] w' qo3 (strs o.s.op))
      have hvg := fun w' (rest : List Plot) (h : Sep w w' ([pOwn b [.slice qo4 o.s.op.length co4, .slice qg4 o.s.gh.length cg4, .bool o.s.fr, .slice qt2 ms2.length ct2, int dp3, .slice qf2 o.fs.length cf2, .bool true, .bool false], pVw qo4 (strs o.s.op), pVw qg4 (strs o.s.gh), pRow 4 qt2 ms2.length ct2 (ms2.flatMap EvM.cells), pMany (ms2.map EvM.row), pRow 5 qf2 o.fs.length cf2 (o.fs.flatMap Fi.cells),
        pOwn b2 [int dp3, .slice qo3 o.s.op.length co3, .slice qg3 o.s.gh.length cg3, .bool o.s.fr, .bool ov3], pVw qo3 (strs o.s.op), pVw qg3 (strs o.s.gh), pRow 4 q3 es3.length c3 (es3.flatMap EvM.cells), pRow 5 qf3 o.fs.length cf3 (o.fs.flatMap Fi.cells)] ++ rest)) => (h.vw 8 rfl : Im [] w' qg3 (strs o.s.gh))
      refine sgo ?_
      refine wcplanb (b := []) (btP b b2 qt2 q3 qf2 qf3 ct2 c3 cf2 cf3 ms2 es3 o qo3 qg3 co3 cg3) ⟨.nilIface, none, 0, 0, (none, 0)⟩ hS rfl (fun j oj a a' hj he hd h => ?_) ⟨?_, ?_, ?_, ?_, ?_, ?_, ?_, ?_, ?_, ?_, ?_, ?_, ?_, ?_, ?_, ?_, ?_, ?_, ?_, ?_, ?_, ?_, ?_, ?_, ?_, ?_, ?_, ?_, ?_, ?_, ?_, ?_, ?_, ?_, trivial⟩ ?_
      · have hjl : j < 34 := (List.getElem?_eq_some_iff.1 hj).1
        match j, hjl with
        | 0, _ | 1, _ | 2, _ | 3, _ | 4, _ | 5, _ | 6, _ | 7, _ | 8, _ | 9, _ | 10, _ | 11, _ | 12, _ | 13, _ | 14, _ | 15, _ | 16, _ | 17, _ | 18, _ | 19, _ | 20, _ | 21, _ | 22, _ | 23, _ | 24, _ | 25, _ | 26, _ | 27, _ | 28, _ | 29, _ | 30, _ | 31, _ | 32, _ | 33, _ => first | (simp only [btP] at h ⊢; rw [← he]; exact h) | exact h
      · intro a σ' w' rest hσ hdep hS'   -- 0: move; pieces:  ..
        have e12 : σ' 12 = int 0 := (hσ 12 (notDstB rfl)).trans rfl
        exact rule_e [(12, _)] ⟨e12, trivial⟩ ⟨⟨int 0, none, 0, 0, (none, 0)⟩, rfl, rfl, hS'⟩
      · intro a σ' w' rest hσ hdep hS'   -- 1: binOp; pieces:  ..
        have f0 := (hdep 0 _ rfl rfl).2
        have e86 := ((hdep 0 _ rfl rfl).1 86 rfl).trans f0
        exact rule_e [(86, _)] ⟨e86, trivial⟩ ⟨⟨.bool false, none, 0, 0, (none, 0)⟩, rfl, rfl, hS'⟩
      · intro a σ' w' rest hσ hdep hS'   -- 2: move; pieces:  ..
        have f1 := (hdep 1 _ rfl rfl).2
        have e87 := ((hdep 1 _ rfl rfl).1 87 rfl).trans f1
        exact rule_e [(87, _)] ⟨e87, trivial⟩ ⟨⟨.bool false, none, 0, 0, (none, 0)⟩, rfl, rfl, hS'⟩
      · intro a σ' w' rest hσ hdep hS'   -- 3: move; pieces:  ..
        have e10 : σ' 10 = .slice qt2 ms2.length ct2 := (hσ 10 (notDstB rfl)).trans rfl
        have eg := ((hdep 2 _ rfl rfl).1 88 rfl).trans (hdep 2 _ rfl rfl).2
        exact rule_eg [(10, _)] ⟨e10, trivial⟩ ⟨⟨.slice qt2 ms2.length ct2, none, 0, 0, (none, 0)⟩, rfl, rfl, hS'⟩ eg
      · intro a σ' w' rest hσ hdep hS'   -- 4: move; pieces:  ..
        have e13 : σ' 13 = .slice q3 es3.length c3 := (hσ 13 (notDstB rfl)).trans rfl
        have eg := ((hdep 2 _ rfl rfl).1 88 rfl).trans (hdep 2 _ rfl rfl).2
        exact rule_eg [(13, _)] ⟨e13, trivial⟩ ⟨⟨.slice q3 es3.length c3, none, 0, 0, (none, 0)⟩, rfl, rfl, hS'⟩ eg
      · intro a σ' w' rest hσ hdep hS'   -- 5: call; pieces:  ..
        have f3 := (hdep 3 _ rfl rfl).2
        have e89 := ((hdep 3 _ rfl rfl).1 89 rfl).trans f3
        have f4 := (hdep 4 _ rfl rfl).2
        have e90 := ((hdep 4 _ rfl rfl).1 90 rfl).trans f4
        have eg := ((hdep 2 _ rfl rfl).1 88 rfl).trans (hdep 2 _ rfl rfl).2
        exact rule_pureg (hsame w' _ hS') (fun w2 hf2 => ⟨⟨.bool true, none, 0, 0, (none, 0)⟩, rfl, rfl, hS'.grow hf2⟩) (am2 e89 e90) eg
      · intro a σ' w' rest hσ hdep hS'   -- 6: unOp; pieces:  ..
        have f5 := (hdep 5 _ rfl rfl).2
        have e91 := ((hdep 5 _ rfl rfl).1 91 rfl).trans f5
        have eg := ((hdep 2 _ rfl rfl).1 88 rfl).trans (hdep 2 _ rfl rfl).2
        exact rule_eg [(91, _)] ⟨e91, trivial⟩ ⟨⟨.bool false, none, 0, 0, (none, 0)⟩, rfl, rfl, hS'⟩ eg
      · intro a σ' w' rest hσ hdep hS'   -- 7: pick; pieces:  ..
        have f2 := (hdep 2 _ rfl rfl).2
        have e88 := ((hdep 2 _ rfl rfl).1 88 rfl).trans f2
        have f6 := (hdep 6 _ rfl rfl).2
        have e92 := ((hdep 6 _ rfl rfl).1 92 rfl).trans f6
        exact rule_e [(88, _), (92, _)] ⟨e88, e92, trivial⟩ ⟨⟨.bool false, none, 0, 0, (none, 0)⟩, rfl, rfl, hS'⟩
      · intro a σ' w' rest hσ hdep hS'   -- 8: move; pieces:  ..
        have f7 := (hdep 7 _ rfl rfl).2
        have e93 := ((hdep 7 _ rfl rfl).1 93 rfl).trans f7
        exact rule_e [(93, _)] ⟨e93, trivial⟩ ⟨⟨.bool false, none, 0, 0, (none, 0)⟩, rfl, rfl, hS'⟩
      · intro a σ' w' rest hσ hdep hS'   -- 9: move; pieces:  ..
        have e11 : σ' 11 = .slice qf2 o.fs.length cf2 := (hσ 11 (notDstB rfl)).trans rfl
        have eg := ((hdep 8 _ rfl rfl).1 94 rfl).trans (hdep 8 _ rfl rfl).2
        exact rule_eg [(11, _)] ⟨e11, trivial⟩ ⟨⟨.slice qf2 o.fs.length cf2, none, 0, 0, (none, 0)⟩, rfl, rfl, hS'⟩ eg
      · intro a σ' w' rest hσ hdep hS'   -- 10: move; pieces:  ..
        have e14 : σ' 14 = .slice qf3 o.fs.length cf3 := (hσ 14 (notDstB rfl)).trans rfl
        have eg := ((hdep 8 _ rfl rfl).1 94 rfl).trans (hdep 8 _ rfl rfl).2
        exact rule_eg [(14, _)] ⟨e14, trivial⟩ ⟨⟨.slice qf3 o.fs.length cf3, none, 0, 0, (none, 0)⟩, rfl, rfl, hS'⟩ eg
      · intro a σ' w' rest hσ hdep hS'   -- 11: call; pieces:  ..
        have f9 := (hdep 9 _ rfl rfl).2
        have e95 := ((hdep 9 _ rfl rfl).1 95 rfl).trans f9
        have f10 := (hdep 10 _ rfl rfl).2
        have e96 := ((hdep 10 _ rfl rfl).1 96 rfl).trans f10
        have eg := ((hdep 8 _ rfl rfl).1 94 rfl).trans (hdep 8 _ rfl rfl).2
        exact rule_pureg (hfind w' _ hS') (fun w2 hf2 => ⟨⟨.bool true, none, 0, 0, (none, 0)⟩, rfl, rfl, hS'.grow hf2⟩) (am2 e95 e96) eg
      · intro a σ' w' rest hσ hdep hS'   -- 12: unOp; pieces:  ..
        have f11 := (hdep 11 _ rfl rfl).2
        have e97 := ((hdep 11 _ rfl rfl).1 97 rfl).trans f11
        have eg := ((hdep 8 _ rfl rfl).1 94 rfl).trans (hdep 8 _ rfl rfl).2
        exact rule_eg [(97, _)] ⟨e97, trivial⟩ ⟨⟨.bool false, none, 0, 0, (none, 0)⟩, rfl, rfl, hS'⟩ eg
      · intro a σ' w' rest hσ hdep hS'   -- 13: pick; pieces:  ..
        have f8 := (hdep 8 _ rfl rfl).2
        have e94 := ((hdep 8 _ rfl rfl).1 94 rfl).trans f8
        have f12 := (hdep 12 _ rfl rfl).2
        have e98 := ((hdep 12 _ rfl rfl).1 98 rfl).trans f12
        exact rule_e [(94, _), (98, _)] ⟨e94, e98, trivial⟩ ⟨⟨.bool false, none, 0, 0, (none, 0)⟩, rfl, rfl, hS'⟩
      · intro a σ' w' rest hσ hdep hS'   -- 14: move; pieces:  ..
        have f13 := (hdep 13 _ rfl rfl).2
        have e99 := ((hdep 13 _ rfl rfl).1 99 rfl).trans f13
        exact rule_e [(99, _)] ⟨e99, trivial⟩ ⟨⟨.bool false, none, 0, 0, (none, 0)⟩, rfl, rfl, hS'⟩
      · intro a σ' w' rest hσ hdep hS'   -- 15: move; pieces:  ..
        have e5 : σ' 5 = ptrAt (pb b) 0 := (hσ 5 (notDstB rfl)).trans rfl
        have eg := ((hdep 14 _ rfl rfl).1 100 rfl).trans (hdep 14 _ rfl rfl).2
        exact rule_eg [(5, _)] ⟨e5, trivial⟩ ⟨⟨ptrAt (pb b) 0, none, 0, 0, (none, 0)⟩, rfl, rfl, hS'⟩ eg
      · intro a σ' w' rest hσ hdep hS'   -- 16: call; pieces:  ..
        have f15 := (hdep 15 _ rfl rfl).2
        have e101 := ((hdep 15 _ rfl rfl).1 101 rfl).trans f15
        have eg := ((hdep 14 _ rfl rfl).1 100 rfl).trans (hdep 14 _ rfl rfl).2
        refine rule_callg (vals := [ptrAt (pb b) 0]) (hop w' _ hS') (fun v w2 hR => ?_) (am1 e101) eg
        obtain ⟨q7, c7, rfl, hS2⟩ := hR
        exact ⟨⟨.slice q7 o.s.op.length c7, none, 0, 0, (q7, c7)⟩, rfl, rfl, hS'.seq hS2⟩
      · intro a σ' w' rest hσ hdep hS'   -- 17: move; pieces:  ..
        have e7 : σ' 7 = ptrAt (pb b2) 0 := (hσ 7 (notDstB rfl)).trans rfl
        have eg := ((hdep 14 _ rfl rfl).1 100 rfl).trans (hdep 14 _ rfl rfl).2
        exact rule_eg [(7, _)] ⟨e7, trivial⟩ ⟨⟨ptrAt (pb b2) 0, none, 0, 0, (none, 0)⟩, rfl, rfl, hS'⟩ eg
      · intro a σ' w' rest hσ hdep hS'   -- 18: nilCheck; pieces:  ..
        have f17 := (hdep 17 _ rfl rfl).2
        have e103 := ((hdep 17 _ rfl rfl).1 103 rfl).trans f17
        have eg := ((hdep 14 _ rfl rfl).1 100 rfl).trans (hdep 14 _ rfl rfl).2
        exact rule_yg (y_nilcheckp e103 ⟨_, rfl⟩) ⟨⟨ptrAt (pb b2) 0, none, 0, 0, (none, 0)⟩, rfl, rfl, hS'⟩ eg
      · intro a σ' w' rest hσ hdep hS'   -- 19: fieldAddr; pieces:  ..
        have f18 := (hdep 18 _ rfl rfl).2
        have e104 := ((hdep 18 _ rfl rfl).1 104 rfl).trans f18
        have eg := ((hdep 14 _ rfl rfl).1 100 rfl).trans (hdep 14 _ rfl rfl).2
        exact rule_yg (y_field e104 ⟨_, rfl⟩ (by decide)) ⟨⟨ptrAt (pb b2) 1, none, 0, 0, (none, 0)⟩, rfl, rfl, hS'⟩ eg
      · intro a σ' w' rest hσ hdep hS'   -- 20: load; pieces:  ..
        have f19 := (hdep 19 _ rfl rfl).2
        have e105 := ((hdep 19 _ rfl rfl).1 105 rfl).trans f19
        have eg := ((hdep 14 _ rfl rfl).1 100 rfl).trans (hdep 14 _ rfl rfl).2
        exact rule_yg (y_load e105 (hcells w' _ hS') rfl) ⟨⟨.slice qo3 o.s.op.length co3, none, 0, 0, (none, 0)⟩, rfl, rfl, hS'⟩ eg
      · intro a σ' w' rest hσ hdep hS'   -- 21: call; pieces: takes 16 ..
        have f16 := (hdep 16 _ rfl rfl).2
        have e102 := ((hdep 16 _ rfl rfl).1 102 rfl).trans f16
        have f20 := (hdep 20 _ rfl rfl).2
        have e106 := ((hdep 20 _ rfl rfl).1 106 rfl).trans f20
        have eg := ((hdep 14 _ rfl rfl).1 100 rfl).trans (hdep 14 _ rfl rfl).2
        exact rule_pureg (names17_ok o.s.op (a 16).x.1 qo3 (a 16).x.2 co3 hopl w' (hS'.im 0 rfl) (hvo w' _ hS'.tail)) (fun w2 hf2 => ⟨⟨.bool true, none, 0, 0, (none, 0)⟩, rfl, rfl, (hS'.tail).grow hf2⟩) (am2 e102 e106) eg
      · intro a σ' w' rest hσ hdep hS'   -- 22: unOp; pieces:  ..
        have f21 := (hdep 21 _ rfl rfl).2
        have e107 := ((hdep 21 _ rfl rfl).1 107 rfl).trans f21
        have eg := ((hdep 14 _ rfl rfl).1 100 rfl).trans (hdep 14 _ rfl rfl).2
        exact rule_eg [(107, _)] ⟨e107, trivial⟩ ⟨⟨.bool false, none, 0, 0, (none, 0)⟩, rfl, rfl, hS'⟩ eg
      · intro a σ' w' rest hσ hdep hS'   -- 23: pick; pieces:  ..
        have f14 := (hdep 14 _ rfl rfl).2
        have e100 := ((hdep 14 _ rfl rfl).1 100 rfl).trans f14
        have f22 := (hdep 22 _ rfl rfl).2
        have e108 := ((hdep 22 _ rfl rfl).1 108 rfl).trans f22
        exact rule_e [(100, _), (108, _)] ⟨e100, e108, trivial⟩ ⟨⟨.bool false, none, 0, 0, (none, 0)⟩, rfl, rfl, hS'⟩
      · intro a σ' w' rest hσ hdep hS'   -- 24: move; pieces:  ..
        have f23 := (hdep 23 _ rfl rfl).2
        have e109 := ((hdep 23 _ rfl rfl).1 109 rfl).trans f23
        exact rule_e [(109, _)] ⟨e109, trivial⟩ ⟨⟨.bool false, none, 0, 0, (none, 0)⟩, rfl, rfl, hS'⟩
      · intro a σ' w' rest hσ hdep hS'   -- 25: move; pieces:  ..
        have e5 : σ' 5 = ptrAt (pb b) 0 := (hσ 5 (notDstB rfl)).trans rfl
        have eg := ((hdep 24 _ rfl rfl).1 110 rfl).trans (hdep 24 _ rfl rfl).2
        exact rule_eg [(5, _)] ⟨e5, trivial⟩ ⟨⟨ptrAt (pb b) 0, none, 0, 0, (none, 0)⟩, rfl, rfl, hS'⟩ eg
      · intro a σ' w' rest hσ hdep hS'   -- 26: call; pieces:  ..
        have f25 := (hdep 25 _ rfl rfl).2
        have e111 := ((hdep 25 _ rfl rfl).1 111 rfl).trans f25
        have eg := ((hdep 24 _ rfl rfl).1 110 rfl).trans (hdep 24 _ rfl rfl).2
        refine rule_callg (vals := [ptrAt (pb b) 0]) (hgo w' _ hS') (fun v w2 hR => ?_) (am1 e111) eg
        obtain ⟨q7, c7, rfl, hS2⟩ := hR
        exact ⟨⟨.slice q7 o.s.gh.length c7, none, 0, 0, (q7, c7)⟩, rfl, rfl, hS'.seq hS2⟩
      · intro a σ' w' rest hσ hdep hS'   -- 27: move; pieces:  ..
        have e7 : σ' 7 = ptrAt (pb b2) 0 := (hσ 7 (notDstB rfl)).trans rfl
        have eg := ((hdep 24 _ rfl rfl).1 110 rfl).trans (hdep 24 _ rfl rfl).2
        exact rule_eg [(7, _)] ⟨e7, trivial⟩ ⟨⟨ptrAt (pb b2) 0, none, 0, 0, (none, 0)⟩, rfl, rfl, hS'⟩ eg
      · intro a σ' w' rest hσ hdep hS'   -- 28: nilCheck; pieces:  ..
        have f27 := (hdep 27 _ rfl rfl).2
        have e113 := ((hdep 27 _ rfl rfl).1 113 rfl).trans f27
        have eg := ((hdep 24 _ rfl rfl).1 110 rfl).trans (hdep 24 _ rfl rfl).2
        exact rule_yg (y_nilcheckp e113 ⟨_, rfl⟩) ⟨⟨ptrAt (pb b2) 0, none, 0, 0, (none, 0)⟩, rfl, rfl, hS'⟩ eg
      · intro a σ' w' rest hσ hdep hS'   -- 29: fieldAddr; pieces:  ..
        have f28 := (hdep 28 _ rfl rfl).2
        have e114 := ((hdep 28 _ rfl rfl).1 114 rfl).trans f28
        have eg := ((hdep 24 _ rfl rfl).1 110 rfl).trans (hdep 24 _ rfl rfl).2
        exact rule_yg (y_field e114 ⟨_, rfl⟩ (by decide)) ⟨⟨ptrAt (pb b2) 2, none, 0, 0, (none, 0)⟩, rfl, rfl, hS'⟩ eg
      · intro a σ' w' rest hσ hdep hS'   -- 30: load; pieces:  ..
        have f29 := (hdep 29 _ rfl rfl).2
        have e115 := ((hdep 29 _ rfl rfl).1 115 rfl).trans f29
        have eg := ((hdep 24 _ rfl rfl).1 110 rfl).trans (hdep 24 _ rfl rfl).2
        exact rule_yg (y_load e115 (hcells w' _ hS') rfl) ⟨⟨.slice qg3 o.s.gh.length cg3, none, 0, 0, (none, 0)⟩, rfl, rfl, hS'⟩ eg
      · intro a σ' w' rest hσ hdep hS'   -- 31: call; pieces: takes 26 ..
        have f26 := (hdep 26 _ rfl rfl).2
        have e112 := ((hdep 26 _ rfl rfl).1 112 rfl).trans f26
        have f30 := (hdep 30 _ rfl rfl).2
        have e116 := ((hdep 30 _ rfl rfl).1 116 rfl).trans f30
        have eg := ((hdep 24 _ rfl rfl).1 110 rfl).trans (hdep 24 _ rfl rfl).2
        exact rule_pureg (names17_ok o.s.gh (a 26).x.1 qg3 (a 26).x.2 cg3 hghl w' (hS'.im 0 rfl) (hvg w' _ hS'.tail)) (fun w2 hf2 => ⟨⟨.bool true, none, 0, 0, (none, 0)⟩, rfl, rfl, (hS'.tail).grow hf2⟩) (am2 e112 e116) eg
      · intro a σ' w' rest hσ hdep hS'   -- 32: unOp; pieces:  ..
        have f31 := (hdep 31 _ rfl rfl).2
        have e117 := ((hdep 31 _ rfl rfl).1 117 rfl).trans f31
        have eg := ((hdep 24 _ rfl rfl).1 110 rfl).trans (hdep 24 _ rfl rfl).2
        exact rule_eg [(117, _)] ⟨e117, trivial⟩ ⟨⟨.bool false, none, 0, 0, (none, 0)⟩, rfl, rfl, hS'⟩ eg
      · intro a σ' w' rest hσ hdep hS'   -- 33: pick; pieces:  ..
        have f24 := (hdep 24 _ rfl rfl).2
        have e110 := ((hdep 24 _ rfl rfl).1 110 rfl).trans f24
        have f32 := (hdep 32 _ rfl rfl).2
        have e118 := ((hdep 32 _ rfl rfl).1 118 rfl).trans f32
        exact rule_e [(110, _), (118, _)] ⟨e110, e118, trivial⟩ ⟨⟨.bool false, none, 0, 0, (none, 0)⟩, rfl, rfl, hS'⟩
      · intro a σ' w' hσ hA' hS'
        have h33 := hA' 33 _ rfl
        rw [frameOf (σ := σ') [(5, ptrAt (pb b) 0), (6, int 0), (7, ptrAt (pb b2) 0), (10, .slice qt2 ms2.length ct2), (52, .slice p ms.length c), (53, int ms.length), (54, int i), (119, .bool false)]
          ⟨(hσ 5 (notDst rfl)).trans rfl, (hσ 6 (notDst rfl)).trans rfl, (hσ 7 (notDst rfl)).trans rfl, (hσ 10 (notDst rfl)).trans rfl, (hσ 52 (notDst rfl)).trans rfl, (hσ 53 (notDst rfl)).trans rfl, (hσ 54 (notDst rfl)).trans rfl, (h33.1 119 rfl).trans h33.2, trivial⟩]
        repeat clear hS
        have hS : Sep w w' (pRow 4 qt2 ms2.length ct2 (ms2.flatMap EvM.cells) :: pMany (ms2.map EvM.row) :: twP b b2 o.s dp3 qo4 co4 qg4 cg4 (.slice qt2 ms2.length ct2) o.fs qf2 cf2 qo3 co3 qg3 cg3 ov3) := by
          have h : Sep w w' [pOwn b [.slice qo4 o.s.op.length co4, .slice qg4 o.s.gh.length cg4, .bool o.s.fr, .slice qt2 ms2.length ct2, int dp3, .slice qf2 o.fs.length cf2, .bool true, .bool false], pVw qo4 (strs o.s.op), pVw qg4 (strs o.s.gh), pRow 4 qt2 ms2.length ct2 (ms2.flatMap EvM.cells), pMany (ms2.map EvM.row), pRow 5 qf2 o.fs.length cf2 (o.fs.flatMap Fi.cells),
            pOwn b2 [int dp3, .slice qo3 o.s.op.length co3, .slice qg3 o.s.gh.length cg3, .bool o.s.fr, .bool ov3], pVw qo3 (strs o.s.op), pVw qg3 (strs o.s.gh), pRow 4 q3 es3.length c3 (es3.flatMap EvM.cells), pRow 5 qf3 o.fs.length cf3 (o.fs.flatMap Fi.cells)] := hS'
          exact h.sel 11 [3, 4, 0, 1, 2, 5, 6, 7, 8]
        clear hA' hσ hS' h33 hsame hfind hop hgo hcells hvo hvg
        refine sgo ?_
        have hfl4 := fm_len EvM.len ms2
        refine wcloop (X := Nat × List RowD) (fun x => [(5, ptrAt (pb b) 0), (6, int 0), (7, ptrAt (pb b2) 0), (10, .slice qt2 ms2.length ct2), (52, .slice p ms.length c), (53, int ms.length), (54, int i), (121, int ms2.length), (122, int x.1)])
          (fun x wr => x.1 ≤ ms2.length ∧ (x.2.length = ms2.length ∧ ∀ (j : Nat) (m : EvM) (r : RowD), ms2[j]? = some m → x.2[j]? = some r → r.p = m.p ∧ r.size = 2 ∧ r.n = m.e.attrs.length) ∧ Sep w wr (pRow 4 qt2 ms2.length ct2 (ms2.flatMap EvM.cells) :: pMany x.2 :: twP b b2 o.s dp3 qo4 co4 qg4 cg4 (.slice qt2 ms2.length ct2) o.fs qf2 cf2 qo3 co3 qg3 cg3 ov3))
          (fun x => ms2.length - x.1) (0, ms2.map EvM.row) ⟨rfl, rfl, rfl, rfl, rfl, rfl, rfl, rfl, rfl, trivial⟩ ⟨Nat.zero_le _, ⟨by simp, ?_⟩, hS⟩ ?_
        · intro j m r hm hr
          simp only [List.getElem?_map, hm, Option.map_some, Option.some.injEq] at hr
          subst hr
          exact ⟨rfl, rfl, rfl⟩
        repeat clear hS
        rintro ⟨j, rs⟩ wr2 ρ2 ⟨hjl, ⟨hrl, hrs⟩, hS⟩
        dsimp only at *
        refine sgo ?_
        (show WC _ _ _ _ _ _ _; first | refine WC_dec rfl (fun hc => ?_) (fun hc => ?_) | refine WC_cond rfl (fun hc => ?_) (fun hc => ?_))
        · have hlt2 : j < ms2.length := by omega
          clear hc
          have hx2 : ms2[j]? = some ms2[j] := List.getElem?_eq_getElem hlt2
          have hal2 := hsml _ (List.getElem_mem hlt2)
          have hg3 := ev_get hx2 3 (by decide)
          replace hg3 : (ms2.flatMap EvM.cells)[j * 4 + 3]? = some (.slice ms2[j].p ms2[j].e.attrs.length ms2[j].c) := hg3
          have hps2 : ∃ a, qt2 = some a := (hS.row 0 rfl).sg.some (by omega)
          have hri : rs[j]? = some rs[j] := List.getElem?_eq_getElem (by omega)
          obtain ⟨e1, e2, e3⟩ := hrs j _ _ hx2 hri
          generalize ms2[j] = m2 at *
          generalize ms2.flatMap EvM.cells = F at *
          generalize hr0 : rs[j] = r0 at *
          clear hr0
          obtain ⟨rz, rp, rn, rc, rx⟩ := r0
          dsimp only at e1 e2 e3
          subst e1 e2 e3
          refine sgo ?_
          refine wcloop (X := Nat × List Value) (fun x => [(5, ptrAt (pb b) 0), (6, int 0), (7, ptrAt (pb b2) 0), (10, .slice qt2 ms2.length ct2), (15, int j), (52, .slice p ms.length c), (53, int ms.length), (54, int i), (121, int ms2.length), (122, int j), (130, int m2.e.attrs.length), (131, int x.1)])
            (fun x wr => x.1 ≤ m2.e.attrs.length ∧ Sep w wr (pRow 4 qt2 ms2.length ct2 F :: pMany (rs.set j ⟨2, m2.p, m2.e.attrs.length, rc, x.2⟩) :: twP b b2 o.s dp3 qo4 co4 qg4 cg4 (.slice qt2 ms2.length ct2) o.fs qf2 cf2 qo3 co3 qg3 cg3 ov3)) (fun x => m2.e.attrs.length - x.1) (0, rx) ⟨rfl, rfl, rfl, rfl, rfl, rfl, rfl, rfl, rfl, rfl, rfl, rfl, trivial⟩ ⟨Nat.zero_le _, ?_⟩ ?_
          · have e : rs.set j ⟨2, m2.p, m2.e.attrs.length, rc, rx⟩ = rs := by
              obtain ⟨h, hh⟩ := List.getElem?_eq_some_iff.1 hri
              rw [← hh, List.set_getElem_self]
            dsimp only
            rw [e]; exact hS
          repeat clear hS
          rintro ⟨kk, ys⟩ wr3 ρ3 ⟨hkk, hS⟩
          dsimp only at *
          refine sgo ?_
          (show WC _ _ _ _ _ _ _; first | refine WC_dec rfl (fun hc => ?_) (fun hc => ?_) | refine WC_cond rfl (fun hc => ?_) (fun hc => ?_))
          · have hkl : kk < m2.e.attrs.length := by omega
            clear hc
            have hj : (rs.set j ⟨2, m2.p, m2.e.attrs.length, rc, ys⟩)[j]? = some ⟨2, m2.p, m2.e.attrs.length, rc, ys⟩ := by rw [List.getElem?_set_self (by omega)]
            have hrow := hS.many 1 rfl _ (List.mem_of_getElem? hj)
            have hrl2 : ys.length = m2.e.attrs.length * 2 := Row.len hrow
            have hmp : ∃ a, m2.p = some a := (Row.sg hrow).some (by dsimp only; omega)
            refine sgo ?_
            refine smst (v := str [63]) (k := kk * 2) hS 1 hj (fun w3 hS => ?_) (hk := by dsimp only; omega)
            refine sgo ?_
            refine ⟨(kk + 1, ys.take (kk * 2) ++ [str [63]] ++ ys.drop (kk * 2 + 1)), ⟨rfl, rfl, rfl, rfl, rfl, rfl, rfl, rfl, rfl, rfl, rfl, rfl, trivial⟩, ⟨hkl, ?_⟩, (by (try dsimp only); omega)⟩
            have hS2 := hS
            simp only [List.set_set, List.set_cons_succ, List.set_cons_zero] at hS2
            exact hS2
          · clear hc
            refine sgo ?_
            refine ⟨(j + 1, rs.set j ⟨2, m2.p, m2.e.attrs.length, rc, ys⟩), ⟨rfl, rfl, rfl, rfl, rfl, rfl, rfl, rfl, rfl, trivial⟩, ⟨hlt2, ⟨by simp [hrl], ?_⟩, hS⟩, (by (try dsimp only); omega)⟩
            intro j' m' r' hm' hr'
            by_cases hji : j' = j
            · subst hji
              rw [List.getElem?_set_self (by omega)] at hr'
              injection hr' with hr'
              rw [hx2] at hm'
              injection hm' with hm'
              subst hr' hm'
              exact ⟨rfl, rfl, rfl⟩
            · rw [List.getElem?_set_ne (fun h => hji h.symm)] at hr'
              exact hrs j' m' r' hm' hr'
        · refine sgo ?_
          exact ⟨i + 1, ⟨rfl, rfl, rfl, rfl, rfl, rfl, trivial⟩, ⟨hlt, o.s, qo4, co4, qg4, cg4, .slice qt2 ms2.length ct2, o.fs, qf2, cf2, qo3, co3, qg3, cg3, ov3, hpos2, by omega, g6, g7, l4, l5, hS.tail.tail⟩, (by (try dsimp only); omega)⟩
  · obtain rfl : i = ms.length := by omega
    have hop512 : s.op.length ≤ 512 := Nat.le_trans hpos.2 hk.2
    clear hIm
    refine sgo ?_
    refine wlcall (bEnd_ok b s qo co qg cg k vt fl qf cf hco hcg (by omega) w _ _ hS) ?_
    repeat clear hS
    rintro _ w7 ⟨⟨s4, qo4, co4, qg4, cg4, ms2, qt2, ct2, fs2, qf2, cf2, dp2, ov4⟩, rfl, g1, g2, g3, g4, g5, g6, g7, hS⟩
    dsimp only at g1 g2 g3 g4 g5 g6 g7 ⊢
    subst g5
    have hrd := fun w' (h : Sep w w' _) => BaM.ready (m := ⟨s4, qo4, co4, qg4, cg4, ms2, qt2, ct2, fs2, qf2, cf2, dp2, true⟩) (b := b) (cs := (StM.mk s qo2 co2 qg2 cg2 k ov2).plots b2 []) h
    refine sgo ?_
    refine wlpure (start17_ok [98] _) fun w8 hf8 => ?_
    replace hS := hS.grow hf8
    refine sgo ?_
    refine wlpure (bTakeE_ok (ptrAt (pb b) 0) 3 (by decide) (tkN 1 [98]) none 0 _ (fun w' hf => hrd w' (hS.grow hf))) fun w9 hf9 => ?_
    replace hS := hS.grow hf9
    refine sgo ?_
    refine wlpure (bEndE_ok (ptrAt (pb b) 0) 3 (by decide) _ (hrd _ hS)) fun w10 hf10 => ?_
    replace hS := hS.grow hf10
    clear hrd
    replace hS : Sep w w10 ((StM.mk s qo2 co2 qg2 cg2 k ov2).plots b2 ((BaM.mk s4 qo4 co4 qg4 cg4 ms2 qt2 ct2 fs2 qf2 cf2 dp2 true).plots b [])) := hS.sel 9 [6, 7, 8, 0, 1, 2, 3, 4, 5]
    refine sgo ?_
    refine wlcallgt (vals := [ptrAt (pb b2) 0]) (sEnd_ok (StM.mk s qo2 co2 qg2 cg2 k ov2) b2 hco2 hcg2 (by dsimp only; omega) w _ _ hS) (fun v w11 hR => ?_) rfl
    repeat clear hS
    obtain ⟨q3, c3, rfl, hS⟩ := hR
    dsimp only at hS ⊢
    have hcl : ((offN s.op s.op.length).map closeM).length = s.op.length := by rw [List.length_map, offN_len _ _ (Nat.le_refl _)]
    have hce : evs ((offN s.op s.op.length).map closeM) = evs ms2 := by rw [mk0_close, mk0_evs]; exact g2.symm
    have hci : ∀ e ∈ (offN s.op s.op.length).map closeM, Im [] w e.p (e.e.attrs.flatMap At.cells) := by
      rw [mk0_close]
      exact mk0_im w _ fun x hx => by obtain ⟨n, _, rfl⟩ := List.mem_map.1 hx; rfl
    have hsml : ∀ m ∈ ms2, m.e.attrs.length ≤ 1048576 := by
      intro m hm
      have : m.e ∈ (offN s.op s.op.length).map closeE := by rw [← g2]; exact List.mem_map_of_mem hm
      obtain ⟨n, _, hn⟩ := List.mem_map.1 this
      rw [← hn]; exact Nat.zero_le _
    generalize (offN s.op s.op.length).map closeM = cl at *
    rw [← hcl] at hS ⊢
    have hml : ms2.length = cl.length := by rw [← evs_len, ← hce, evs_len]
    have hF11 := hS.frm
    refine sgo ?_
    refine wlcallgp (vals := [.slice qt2 ms2.length ct2, .slice q3 cl.length c3]) (fun _ => same17_ok ms2 cl qt2 q3 ct2 c3 (by omega) hce.symm hsml w11 (Sep.evs hS 4 5 rfl rfl) ⟨hS.im 0 rfl, fun m hm => (hci m hm).frm hS.frm⟩) (fun w12 hf12 => ?_) (ha := fun hgd => Go.Sv.am2 (evG hgd) (evG hgd))
    refine sgo ?_
    refine wlcallgp (vals := []) (fun _ => lives17_ok _ (hA.frm (hF11.trans hf12))) (fun w13 hf13 => ?_) (ha := fun _ => rfl)
    have hF13 := hF11.trans (hf12.trans hf13)
    refine sgo ?_
    (first | refine fp1 (.inl rfl) rfl rfl ?_ | refine fp2 (.inl rfl) rfl rfl rfl ?_ | refine fp3 (.inl rfl) rfl rfl rfl rfl ?_ | refine fp0 (.inr rfl) rfl ?_ | refine fp0 (.inl rfl) rfl ?_ | refine fp1 (.inr rfl) rfl rfl ?_); refine ⟨?_, by (first | exact Frm.refl _ | assumption | exact Go.Sv.Sep.frm (by assumption) | (refine Frm.trans ?_ (by assumption); first | exact Frm.refl _ | assumption))⟩; (try simp only [realB, rv_true, Nat.reduceBEq, cond_true, cond_false, entG, real_lif, updGL])
    simp [pkb]
end Go.Proofs.YtmnnffenijjpcaaGreatDoor

/-
  From a frame to what a row asks behind the call: nothing that was there has turned (new blocks may be frozen).
-/
set_option linter.unusedSimpArgs false
set_option linter.unusedVariables false
set_option linter.unnecessarySimpa false
namespace Go.ChangeShapes
section
variable {H : Type} {enc : TypeId × Value → H} {P : Program}
theorem post_frm {f : Func} {s : ChangeSpec} {apart fresh handsOn again : Bool} {W W' : World} {args : Array Value} {v : Value} {ds gs : List (DataW H)} {before pa pv : List MemPlace}
    (hW : DataW.Whole enc P f.params.toList s.vars apart W args.toList ds gs before)
    (hres : ∀ (b : Nat) (sp : Nat → Bool) (hd : Bool), DataW.TrodAll enc P W' b sp hd f.resultTypes.toList (v.resultList f.resultTypes.size) (s.fn H (ds ++ gs)).results [])
    (hargs : ∀ sp : Nat → Bool, (∀ p ∈ before, sp p.block = true) → DataW.TrodAll enc P W' 0 sp true f.params.toList args.toList (s.fn H (ds ++ gs)).args pa)
    (hvars : ∀ sp : Nat → Bool, (∀ p ∈ before, sp p.block = true) → DataW.TrodVars enc P W' sp s.vars (s.fn H (ds ++ gs)).vars pv)
    (hps : before = pa ++ pv) (hk : Sv.Frm W W')
    (hok : ∀ (j : Nat) (t : TypeId) (r : Value), f.resultTypes[j]? = some t → (v.resultList f.resultTypes.size)[j]? = some r → Value.okWide P W' .any 0 t r) :
    s.post enc P f apart fresh handsOn again W args v W' := by
  have hold : ∀ p ∈ before, (fun b => decide (b < W.heap.size)) p.block = true := fun p hp => by simpa using hW.lt p hp
  refine ⟨ds, gs, before, [], pa, pv, hW, hres _ _ _, hargs _ hold, hvars _ hold, World.keptBut_mono (fun p hp => ⟨hp, ?_⟩) (RowKit.Below.frame hk (· ∈ before)), fun _ => ?_⟩
  · rw [hps, List.mem_append] at hp
    exact Or.inr hp
  · have hlt := hW.lt
    obtain ⟨_, _, _, _, _, hz, hn⟩ := hW
    refine ⟨hok, _, _, ([] ++ pa) ++ pv, ⟨[] ++ pa, pv, trodAll_append (hargs _ (fun _ _ => rfl)) (hres _ _ _), hvars _ (fun _ _ => rfl), rfl, ?_, ?_⟩, ?_⟩
    · intro b off hp
      have hp' : (.cell b off : MemPlace) ∈ before := by rw [hps]; simpa using hp
      rw [RowKit.Below.frozen hk (hlt _ hp')]
      exact hz b off hp'
    · intro ha
      have := hn ha
      rw [hps] at this
      simpa using this
    · intro p hp _
      rw [hps]
      simpa using hp
end
end Go.ChangeShapes

/-
  From a reading of the arguments to what lies in memory; and back: a law leaves the arguments as they were.
-/
set_option linter.unusedSimpArgs false
set_option linter.unusedVariables false
set_option linter.unnecessarySimpa false
namespace Go.Sv
open Go Go.RowKit Go.ChangeShapes Go.WideShapes
theorem cell_lt {w : World} {a : Addr} {v : Value} (h : w.cell? a = some v) : a.block < w.heap.size := by
  rcases Nat.lt_or_ge a.block w.heap.size with h1 | h1
  · exact h1
  · have : w.heap[a.block]? = none := Array.getElem?_eq_none h1
    simp [World.cell?, this] at h
theorem seg_app {w : World} {a : Addr} {l l' : List Value} (h : seg w a l) (h' : seg w (a.add l.length) l') : seg w a (l ++ l') := by
  intro i hi
  rcases Nat.lt_or_ge i l.length with h1 | h1
  · rw [h i h1, List.getElem?_append_left h1]
  · have := h' (i - l.length) (by simp at hi; omega)
    rw [add_add, show l.length + (i - l.length) = i by omega] at this
    rw [this, List.getElem?_append_right h1]
theorem seg_range {w : World} {a : Addr} {k : Nat} (f : Nat → List Value) : ∀ n : Nat, (∀ i, i < n → (f i).length = k ∧ seg w (a.add (i * k)) (f i)) → seg w a ((List.range n).flatMap f) ∧ ((List.range n).flatMap f).length = n * k
  | 0, _ => ⟨fun i hi => by simp at hi, by simp⟩
  | n + 1, h => by
    obtain ⟨h1, h2⟩ := seg_range f n fun i hi => h i (by omega)
    obtain ⟨h3, h4⟩ := h n (by omega)
    rw [List.range_succ, List.flatMap_append]
    simp only [List.flatMap_cons, List.flatMap_nil, List.append_nil]
    refine ⟨seg_app h1 (by rw [h2]; exact h4), ?_⟩
    rw [List.length_append, h2, h3, Nat.succ_mul]
/-- a law's ending: it answered true, and left all as it was -/
theorem trodAll_frm {H : Type} {enc : TypeId × Value → H} {P : Program} (hl : laidOutB P = true) {W W' : World} (hf : Sv.Frm W W') {sp : Nat → Bool} : ∀ {ts : List TypeId} {vs : List Value} {ds : List (DataW H)} {ps : List MemPlace},
    (∀ t ∈ ts, P.readableRec t = true ∧ t < P.types.size) → DataW.TrodAll enc P W 0 (fun _ => true) true ts vs ds ps → (∀ p ∈ ps, p.block < W.heap.size) → (∀ p ∈ ps, sp p.block = true) → DataW.TrodAll enc P W' 0 sp true ts vs ds ps
  | [], [], [], _, _, h, _, _ => h
  | t :: ts, v :: vs, d :: ds, _, ht, ⟨p, q, h1, h2, e⟩, hlt, hs => by
    subst e
    refine ⟨p, q, ?_, ?_, rfl⟩
    · obtain ⟨hr, hrow⟩ := ht t List.mem_cons_self
      exact WideElems.Trod_stays hl hr hrow h1 (fun x hx => RowKit.Below.same hf (hlt x (List.mem_append_left _ hx))) fun x hx => hs x (List.mem_append_left _ hx)
    · exact trodAll_frm hl hf (fun t ht' => ht t (List.mem_cons_of_mem _ ht')) h2 (fun x hx => hlt x (List.mem_append_right _ hx)) fun x hx => hs x (List.mem_append_right _ hx)
theorem law_ends {H : Type} {enc : TypeId × Value → H} {P : Program} {f : Func} {s : ChangeSpec} {W W' : World} {args : Array Value} {ds gs : List (DataW H)} {before : List MemPlace} {tb : TypeId}
    (hl : laidOutB P = true) (hT : ∀ t ∈ f.params.toList, P.readableRec t = true ∧ t < P.types.size) (hv : s.vars = []) (hrt : f.resultTypes = #[tb]) (hb : P.underlying tb = some .bool)
    (hW : DataW.Whole enc P f.params.toList s.vars false W args.toList ds gs before) (hfn : s.fn H (ds ++ gs) = { results := [.lit (.bool true)], args := ds ++ gs }) (hg : Frm W W') :
    s.post enc P f false true false false W args (.bool true) W' := by
  have hW' := hW
  have hlt := hW.lt
  obtain ⟨p, q, hA, hV, rfl, _, _⟩ := hW
  rw [hv] at hV
  obtain ⟨rfl, rfl⟩ := trodVars_none hV
  have hrl : (Value.bool true).resultList f.resultTypes.size = [.bool true] := by rw [hrt]; rfl
  simp only [List.append_nil] at hlt hfn
  refine post_frm (pa := p) (pv := []) hW' (fun _ _ _ => ?_) (fun sp hsp => ?_) (fun _ _ => ?_) rfl hg (ok_one hrt rfl (okWide_bool_mk hb _))
  · rw [hrt]
    simp only [List.append_nil, hfn]
    exact trodAll_cons_mk (shut_bool hb _) trodAll_mk0
  · simp only [List.append_nil, hfn]
    exact trodAll_frm hl hg hT hA hlt (fun x hx => hsp x (by simpa using hx))
  · simp only [List.append_nil, hfn, hv]
    rfl
end Go.Sv
namespace Go.Proofs.YtmnnffenijjpcaaGreatDoor
open Go Go.Sv Go.RowKit Go.ChangeShapes Go.WideShapes Go.Deep

theorem laidOut : laidOutB Tryz.prog = true := by kernel_rfl
theorem own : ownKnob Tryz.prog.godebug = none := by kernel_rfl

section
variable {H : Type} {P : Program} {enc : TypeId × Value → H} {w : World} {base : Nat} {spare : Nat → Bool} {held : Bool}
theorem bulkAll_eq : ∀ l : List (DataW H), Rows.uptoBulkAll l = (l.map Rows.uptoBulk).sum
  | [] => by simp [Rows.uptoBulkAll]
  | d :: l => by simp only [Rows.uptoBulkAll, List.map_cons, List.sum_cons, bulkAll_eq l]
theorem bulk_slice (es rs : List (DataW H)) : Rows.uptoBulk (.slice es rs) = (es.map Rows.uptoBulk).sum + (rs.map Rows.uptoBulk).sum + 1 := by simp only [Rows.uptoBulk, bulkAll_eq]
theorem bulk_agg (es : List (DataW H)) : Rows.uptoBulk (.agg es) = (es.map Rows.uptoBulk).sum + 1 := by simp only [Rows.uptoBulk, bulkAll_eq]
theorem bulk_nil : Rows.uptoBulk (.nil : DataW H) = 1 := by simp only [Rows.uptoBulk]
theorem bulk_str (l : List UInt8) : Rows.uptoBulk (.lit (.string l) : DataW H) = l.length + 1 := by simp only [Rows.uptoBulk]
theorem bulk_int (k : IntKind) (n : Int) : Rows.uptoBulk (.lit (.int k n) : DataW H) = 1 := by simp only [Rows.uptoBulk]
theorem bulk_bool (b : Bool) : Rows.uptoBulk (.lit (.bool b) : DataW H) = 1 := by simp only [Rows.uptoBulk]

/-- a slice of records: what they are, where they lie, and what they hold together -/
theorem open_recs {t e : TypeId} {fuel : Nat} {cs : List Value} {x : DataW H × List MemPlace} {α : Type} (cells : α → List Value) (wt : α → Nat) (Q : α → Prop) (ht : P.underlying t = some (.slice e))
    (h : DataW.trod enc P w base spare held fuel t cs = some x)
    (hrec : ∀ k cs' y, cs'.length = P.cellsOf e → DataW.trod enc P w base spare held k e cs' = some y → ∃ r, cs' = cells r ∧ Q r ∧ wt r ≤ Rows.uptoBulk y.1) :
    ∃ (p : Option Addr) (c : Nat) (rs : List α), cs = [.slice p rs.length c] ∧ rs.length ≤ c ∧ c ≤ maxLen ∧ Im [] w p (rs.flatMap cells) ∧ (∀ r ∈ rs, Q r) ∧ (rs.map wt).sum + 1 ≤ Rows.uptoBulk x.1 := by
  rcases open_slice ht h with ⟨rfl, rfl⟩ | ⟨a, len, cap, m, n, D, Pl, rfl, _, hl, hm, hmm, rfl, hi⟩
  · exact ⟨none, 0, [], rfl, Nat.le_refl _, Nat.zero_le _, .inl rfl, by simp, by simp [bulk_nil]⟩
  · have hlm : len ≤ m := by rw [hmm]; split <;> omega
    have key : ∀ n : Nat, n ≤ len → ∃ rs : List α, rs.length = n ∧ rs.flatMap cells = (List.range n).flatMap (fun i => (w.cells? base (a.add (i * P.cellsOf e)) (P.cellsOf e)).getD []) ∧ (∀ r ∈ rs, Q r) ∧ (rs.map wt).sum ≤ ((List.range n).map fun i => Rows.uptoBulk (D i)).sum := by
      intro n
      induction n with
      | zero => intro _; exact ⟨[], rfl, rfl, by simp, by simp⟩
      | succ n ih =>
        intro hn
        obtain ⟨rs, h1, h2, h3, h4⟩ := ih (by omega)
        obtain ⟨cs', h5, h6⟩ := hi n (by omega)
        obtain ⟨_, hcl, _⟩ := World.cells?_some h5
        obtain ⟨r, h7, h8, h9⟩ := hrec _ _ _ hcl h6
        refine ⟨rs ++ [r], by simp [h1], ?_, ?_, ?_⟩
        · rw [List.range_succ, List.flatMap_append, List.flatMap_append, h2]
          simp [h5, h7]
        · intro x hx
          rcases List.mem_append.1 hx with hx | hx
          · exact h3 x hx
          · rw [List.mem_singleton.1 hx]; exact h8
        · rw [List.range_succ, List.map_append, List.map_append, List.sum_append, List.sum_append]
          simp only [List.map_cons, List.map_nil, List.sum_cons, List.sum_nil]
          dsimp only at h9
          omega
    obtain ⟨rs, h1, h2, h3, h4⟩ := key len (Nat.le_refl _)
    refine ⟨some a, cap, rs, by rw [h1], by omega, hm, ?_, h3, ?_⟩
    · rw [h2]
      have hsr := seg_range (w := w) (a := a) (k := P.cellsOf e) (fun i => (w.cells? base (a.add (i * P.cellsOf e)) (P.cellsOf e)).getD []) len (fun i hil => by
        obtain ⟨cs', h5, _⟩ := hi i (by omega)
        obtain ⟨_, hcl, hat⟩ := World.cells?_some h5
        rw [h5]
        exact ⟨hcl, fun j hj => hat j (by simpa [hcl] using hj)⟩)
      generalize (List.range len).flatMap (fun i => (w.cells? base (a.add (i * P.cellsOf e)) (P.cellsOf e)).getD []) = L at *
      cases L with
      | nil => exact .inl rfl
      | cons v L =>
        refine .inr ⟨a, rfl, hsr.1, ?_, by simp⟩
        have := hsr.1 0 (by simp)
        have h0 : w.cell? (a.add 0) = some v := this
        have := cell_lt h0
        rwa [add_block] at this
    · rw [bulk_slice, List.map_map]
      have : ((List.range len).map (Rows.uptoBulk ∘ D)).sum = ((List.range len).map fun i => Rows.uptoBulk (D i)).sum := rfl
      omega
theorem str_of (s : ByteArray) : Value.string s = str s.data.toList := by cases s; rfl
/-- a cell that is a text -/
theorem open_strc {t : TypeId} {fuel : Nat} {cs : List Value} {x : DataW H × List MemPlace} (ht : P.underlying t = some .string) (h : DataW.trod enc P w base spare held fuel t cs = some x) : ∃ l : List UInt8, cs = [str l] ∧ Rows.uptoBulk x.1 = l.length + 1 := by
  obtain ⟨s, rfl, rfl, _⟩ := DataW.trod_string ht h
  exact ⟨s.data.toList, by rw [str_of], bulk_str _⟩
theorem open_intc {t : TypeId} {k : IntKind} {fuel : Nat} {cs : List Value} {x : DataW H × List MemPlace} (ht : P.underlying t = some (.int k)) (h : DataW.trod enc P w base spare held fuel t cs = some x) : ∃ n : Int, cs = [.int k n] ∧ k.min ≤ n ∧ n ≤ k.max ∧ Rows.uptoBulk x.1 = 1 := by
  obtain ⟨n, rfl, rfl, hw⟩ := DataW.trod_int ht h
  simp only [Lit.wf, IntKind.has, Bool.and_eq_true, decide_eq_true_eq] at hw
  exact ⟨n, rfl, hw.1, hw.2, bulk_int _ _⟩
theorem open_boolc {t : TypeId} {fuel : Nat} {cs : List Value} {x : DataW H × List MemPlace} (ht : P.underlying t = some .bool) (h : DataW.trod enc P w base spare held fuel t cs = some x) : ∃ b : Bool, cs = [.bool b] ∧ Rows.uptoBulk x.1 = 1 := by
  obtain ⟨b, rfl, rfl⟩ := DataW.trod_bool ht h
  exact ⟨b, rfl, bulk_bool _⟩
theorem small_le {ds : List (DataW H)} (hk : Rows.uptoSmall H ds = true) : (ds.map Rows.uptoBulk).sum ≤ 1048576 := by
  have := of_decide_eq_true hk
  rwa [bulkAll_eq] at this
end
end Go.Proofs.YtmnnffenijjpcaaGreatDoor

/-
  Readings of attributes and tokens: what lies in memory.
-/
set_option linter.unusedSimpArgs false
set_option linter.unusedVariables false
set_option linter.unnecessarySimpa false
namespace Go.Proofs.YtmnnffenijjpcaaGreatDoor
open Go Go.Sv Go.RowKit Go.ChangeShapes Go.WideShapes Go.Deep

theorem c_str : Tryz.prog.cellsOf 9 = 1 := by kernel_rfl
theorem c_bool : Tryz.prog.cellsOf 4 = 1 := by kernel_rfl
theorem c_int : Tryz.prog.cellsOf 3 = 1 := by kernel_rfl
theorem c_kind : Tryz.prog.cellsOf 28 = 1 := by kernel_rfl
theorem c_place : Tryz.prog.cellsOf 31 = 3 := by kernel_rfl
theorem c_attrs : Tryz.prog.cellsOf 29 = 1 := by kernel_rfl
theorem c_attr : Tryz.prog.cellsOf 58 = 2 := by kernel_rfl
theorem c_tok : Tryz.prog.cellsOf 33 = 8 := by kernel_rfl
section
variable {H : Type} {enc : TypeId × Value → H} {w : World} {base : Nat} {spare : Nat → Bool} {held : Bool}
set_option maxRecDepth 100000 in
theorem open_at {fuel : Nat} {cs : List Value} {x : DataW H × List MemPlace} (h : DataW.trod enc Tryz.prog w base spare held fuel 58 cs = some x) : ∃ r : At, cs = r.cells ∧ True ∧ r.wt ≤ Rows.uptoBulk x.1 := by
  obtain ⟨xs, n, _, rfl, hl, hlen, hf⟩ := DataW.trod_struct Tryz.underlying58 h
  rw [c_attr] at hl
  have f0 := hf 0 _ rfl
  have f1 := hf 1 _ rfl
  clear hf h
  match cs, hl with
  | [c0, c1], _ =>
    match xs, hlen with
    | [y0, y1], _ =>
      simp only [c_str, List.drop_zero, List.drop_succ_cons, List.take_succ_cons, List.take_zero, List.getElem?_cons_zero, List.getElem?_cons_succ] at f0 f1
      obtain ⟨l0, e0, b0⟩ := open_strc Tryz.underlying9 f0
      obtain ⟨l1, e1, b1⟩ := open_strc Tryz.underlying9 f1
      injection e0 with e0
      injection e1 with e1
      subst e0 e1
      refine ⟨⟨l0, l1⟩, rfl, trivial, ?_⟩
      rw [bulk_agg]
      simp only [List.map_cons, List.map_nil, List.sum_cons, List.sum_nil, b0, b1, At.wt]
      omega
set_option maxRecDepth 100000 in
theorem open_tok {fuel : Nat} {cs : List Value} {x : DataW H × List MemPlace} (h : DataW.trod enc Tryz.prog w base spare held fuel 33 cs = some x) : ∃ r : TokM, cs = r.cells ∧ Im [] w r.p (r.t.attrs.flatMap At.cells) ∧ r.t.wt ≤ Rows.uptoBulk x.1 := by
  obtain ⟨xs, n, _, rfl, hl, hlen, hf⟩ := DataW.trod_struct Tryz.underlying33 h
  rw [c_tok] at hl
  have f0 := hf 0 _ rfl
  have f1 := hf 1 _ rfl
  have f2 := hf 2 _ rfl
  have f3 := hf 3 _ rfl
  have f4 := hf 4 _ rfl
  have f5 := hf 5 _ rfl
  clear hf h
  match cs, hl with
  | [c0, c1, c2, c3, c4, c5, c6, c7], _ =>
    match xs, hlen with
    | [y0, y1, y2, y3, y4, y5], _ =>
      simp only [c_str, c_bool, c_kind, c_place, c_attrs, List.drop_zero, List.drop_succ_cons, List.take_succ_cons, List.take_zero, List.getElem?_cons_zero, List.getElem?_cons_succ] at f0 f1 f2 f3 f4 f5
      obtain ⟨k, e0, _, _, b0⟩ := open_intc Tryz.underlying28 f0
      obtain ⟨l1, e1, b1⟩ := open_strc Tryz.underlying9 f1
      obtain ⟨l2, e2, b2⟩ := open_strc Tryz.underlying9 f2
      obtain ⟨p, c, es, e3, _, _, him, _, b3⟩ := open_recs At.cells At.wt (fun _ => True) Tryz.underlying29 f3 (fun k cs' y _ hy => open_at hy)
      obtain ⟨b, e4, b4⟩ := open_boolc Tryz.underlying4 f4
      obtain ⟨zs, m, _, rfl, _, hzl, hz⟩ := DataW.trod_struct Tryz.underlying31 f5
      have g0 := hz 0 _ rfl
      have g1 := hz 1 _ rfl
      have g2 := hz 2 _ rfl
      clear hz
      match zs, hzl with
      | [z0, z1, z2], _ =>
        simp only [c_int, List.drop_zero, List.drop_succ_cons, List.take_succ_cons, List.take_zero, List.getElem?_cons_zero, List.getElem?_cons_succ] at g0 g1 g2
        obtain ⟨n0, e5, _, _, b5⟩ := open_intc Tryz.underlying3 g0
        obtain ⟨n1, e6, _, _, b6⟩ := open_intc Tryz.underlying3 g1
        obtain ⟨n2, e7, _, _, b7⟩ := open_intc Tryz.underlying3 g2
        injection e0 with e0; injection e1 with e1; injection e2 with e2; injection e3 with e3; injection e4 with e4; injection e5 with e5; injection e6 with e6; injection e7 with e7
        subst e0 e1 e2 e3 e4 e5 e6 e7
        refine ⟨⟨⟨k, l1, l2, es, b, n0, n1, n2⟩, p, c⟩, rfl, him, ?_⟩
        simp only [bulk_agg, List.map_cons, List.map_nil, List.sum_cons, List.sum_nil, b0, b1, b2, b4, b5, b6, b7]
        unfold Tok.wt
        dsimp only at b3 ⊢
        omega
set_option maxRecDepth 100000 in
theorem open_toks {v : Value} {d : DataW H} {ps : List MemPlace} {r : Reach} {b0 : Nat} (hv : Value.okWide Tryz.prog w r b0 22 v) (h : DataW.Trod enc Tryz.prog w base spare held 22 v d ps) :
    ∃ (p : Option Addr) (c : Nat) (ms : List TokM), v = .slice p ms.length c ∧ Toks w p ms ∧ wts ms + 1 ≤ Rows.uptoBulk d := by
  obtain ⟨a, n, cc, rfl⟩ := okWide_slice Tryz.underlying22 hv
  obtain ⟨fuel, hf⟩ := h
  obtain ⟨p, c, ms, e, _, _, him, hQ, hw⟩ := open_recs TokM.cells (fun m => m.t.wt) (fun m => Im [] w m.p (m.t.attrs.flatMap At.cells)) Tryz.underlying22 hf (fun k cs' y _ hy => open_tok hy)
  have e' : Value.slice a n cc = .slice p ms.length c := by simpa [Value.cells] using e
  exact ⟨p, c, ms, e', ⟨him, hQ⟩, hw⟩
end
end Go.Proofs.YtmnnffenijjpcaaGreatDoor

/-
  Readings of arguments of one cell: numbers, truth values.
-/
set_option linter.unusedSimpArgs false
set_option linter.unusedVariables false
set_option linter.unnecessarySimpa false
namespace Go.Proofs.YtmnnffenijjpcaaGreatDoor
open Go Go.Sv Go.RowKit Go.ChangeShapes Go.WideShapes Go.Deep
set_option maxRecDepth 100000 in
theorem open_int1 {H : Type} {enc : TypeId × Value → H} {w : World} {base : Nat} {spare : Nat → Bool} {held : Bool} {v : Value} {d : DataW H} {ps : List MemPlace} {r : Reach} {b0 : Nat} (hv : Value.okWide Tryz.prog w r b0 3 v) (h : DataW.Trod enc Tryz.prog w base spare held 3 v d ps) :
    ∃ n : Int, v = .int .i64 n ∧ IntKind.min .i64 ≤ n ∧ n ≤ IntKind.max .i64 ∧ 1 ≤ Rows.uptoBulk d := by
  obtain ⟨s, rfl⟩ := okWide_int Tryz.underlying3 hv
  obtain ⟨fuel, hf⟩ := h
  obtain ⟨l, e, h1, h2, hw⟩ := open_intc Tryz.underlying3 hf
  dsimp only at hw
  exact ⟨l, by simpa [Value.cells] using e, h1, h2, by omega⟩
end Go.Proofs.YtmnnffenijjpcaaGreatDoor

/-
  Readings of arguments of one cell: texts.
-/
set_option linter.unusedSimpArgs false
set_option linter.unusedVariables false
set_option linter.unnecessarySimpa false
namespace Go.Proofs.YtmnnffenijjpcaaGreatDoor
open Go Go.Sv Go.RowKit Go.ChangeShapes Go.WideShapes Go.Deep
section
variable {H : Type} {enc : TypeId × Value → H} {w : World} {base : Nat} {spare : Nat → Bool} {held : Bool}
end
end Go.Proofs.YtmnnffenijjpcaaGreatDoor

/-
  What a row's list says of the table of blanks; a world for the witness.
-/
set_option linter.unusedSimpArgs false
set_option linter.unusedVariables false
set_option linter.unnecessarySimpa false
namespace Go.Proofs.YtmnnffenijjpcaaGreatDoor
open Go Go.Sv Go.RowKit Go.ChangeShapes Go.WideShapes Go.ChangeAt

theorem laid_at {P : Program} {W : World} {name : String} {d : DataW Unit} : ∀ {laid : List (String × DataW Unit)} {ps : List MemPlace}, DataW.LaidVars P W laid ps → (name, d) ∈ laid →
    ∃ g t cs fuel p, P.globalNamed name = some g ∧ (P.globals[g]?).map (·.type) = some t ∧ W.var? P name = some cs ∧ DataW.trod (fun _ => ()) P W 0 (fun _ => true) false fuel t cs.toList = some (d, p)
  | [], _, _, hm => by cases hm
  | x :: laid, ps, h, hm => by
    obtain ⟨g', t', cs, fuel, p, q, hg', ht', hvar, hd, hr, _⟩ := h
    rcases List.mem_cons.1 hm with rfl | hm
    · exact ⟨g', t', cs, fuel, p, hg', ht', hvar, hd⟩
    · exact laid_at hr hm
theorem gAscType : (Tryz.prog.globals[0]?).map (·.type) = some 149 := by kernel_rfl
set_option maxRecDepth 100000 in
theorem asc_of {W : World} {laid : List (String × DataW Unit)} (h : laidMet Tryz.prog laid W) (hm : ("strings.asciiSpace", Rows.laid_strings_asciiSpace) ∈ laid) : Asc W := by
  obtain ⟨ps, hL, _⟩ := h
  obtain ⟨g', t', cs, fuel, p, hg', ht', hvar, hd⟩ := laid_at hL hm
  obtain rfl := Option.some.inj (gAsc.symm.trans hg')
  obtain rfl := Option.some.inj (gAscType.symm.trans ht')
  have e : (Rows.laid_strings_asciiSpace : DataW Unit) = Lib.tabData .u8 Lib.asciiSpaceTab := by kernel_rfl
  rw [e] at hd
  unfold Asc Lib.TabIs
  rw [hvar, ← Lib.cells_of_tab Tryz.underlying149 Tryz.underlying5 (by kernel_rfl) (by kernel_rfl) hd]
/-- a world for the witness: the variables hold what their initialisers lay -/
noncomputable def ascHeap (h : Array Obj) : Array Obj :=
  (((h.modify 0 fun | .cells _ t f => .cells (Lib.asciiSpaceTab.map fun z => Value.int .u8 z).toArray t f | o => o).modify 1 fun
    | .cells _ t f => .cells #[.pointer (some ⟨h.size, 0, none⟩)] t f | o => o).push (.cells #[.slice (some ⟨h.size + 1, 0, none⟩) 7 7, .slice none 0 0, .int .i64 2] 173 (0, 0))).push
    (.cells (([9, 13, 1, 32, 133, 101, 160, 5760, 5600, 8192, 8202, 1, 8232, 8233, 1, 8239, 8287, 48, 12288, 12288, 1] : List Int).map fun z => Value.int .u16 z).toArray 176 (0, 0))
noncomputable def ascWorld (os : Os) : World := { World.holding Tryz.prog os ⟨#[], #[], []⟩ with heap := ascHeap (World.holding Tryz.prog os ⟨#[], #[], []⟩).heap }
end Go.Proofs.YtmnnffenijjpcaaGreatDoor

/-
  A world for the witness of cards that list the tables of blanks and those of package utf8.
-/
set_option linter.unusedSimpArgs false
set_option linter.unusedVariables false
set_option linter.unnecessarySimpa false
namespace Go.Proofs.YtmnnffenijjpcaaGreatDoor
open Go Go.Sv Go.RowKit Go.ChangeShapes Go.WideShapes Go.ChangeAt
noncomputable def bakHeap (h : Array Obj) : Array Obj :=
  ascHeap ((h.modify 2 fun
    | .cells _ t f => .cells (Go.Pinned.utf8FirstZ.map fun (z : Nat) => Value.int .u8 z).toArray t f | o => o).modify 3 fun
    | .cells _ t f => .cells (([128, 191, 160, 191, 128, 159, 144, 191, 128, 143] ++ List.replicate 22 0 : List Int).map fun z => Value.int .u8 z).toArray t f | o => o)
noncomputable def bakWorld (os : Os) : World := { World.holding Tryz.prog os ⟨#[], #[], []⟩ with heap := bakHeap (World.holding Tryz.prog os ⟨#[], #[], []⟩).heap }
end Go.Proofs.YtmnnffenijjpcaaGreatDoor

