/-
  Our texts SvBaG, SvTrmS, SvBaH, SvBaI, SvBaJ, SvBaK, SvBaL, SvRtH, SvSaA, SvSaB, SvSaC, SvSaD, SvSaE, SvSaF, SvBaN, SvTokJ, SvNst, SvBaP, SvRtI, SvBaR, SvBaS, SvPost, joined.
-/
import Derived.Test.YtmnnffenijjpcaaGreatDoorMg6
import Derived.ChangeSame
/-
  Package balance: start.
-/
set_option linter.unusedSimpArgs false
set_option linter.unusedVariables false
set_option linter.unnecessarySimpa false
namespace Go.Proofs.YtmnnffenijjpcaaGreatDoor
open Go Go.Sv Go.RowKit

def stP (b b3 : Nat) (qo : Option Addr) (co : Nat) (op : List Nm) (nm : Nm) (p : PlanR) : PlanB (Option Addr × Nat) where
  pl k d := match k with
    | 7 => [pRow 1 d.x.1 p.put.length d.x.2 (strs p.put)]
    | 11 => [pOwn d.b [int 0, .slice none 0 0, .bool false]]
    | 12 => [pOwn d.b [int p.ends, .slice d.x.1 p.put.length d.x.2, .bool p.drop]]
    | _ => []
  con k := match k with
    | 11 => some 12
    | _ => none
  base k := match k with
    | _ => []
  fact k a := match k with
    | 0 => (a 0).v = ptrAt (pb b) 0
    | 1 => (a 1).v = ptrAt (pb b) 0
    | 2 => (a 2).v = ptrAt (pb b) 0
    | 3 => (a 3).v = ptrAt (pb b) 0
    | 4 => (a 4).v = .slice qo op.length co
    | 5 => (a 5).v = ptrAt (pb b3) 1
    | 6 => (a 6).v = str nm
    | 7 => (a 7).v = .tuple #[.agg ⟨[int p.ends, .slice (a 7).x.1 p.put.length (a 7).x.2, .bool p.drop]⟩, int p.err]
    | 8 => (a 8).v = .tuple #[.agg ⟨[int p.ends, .slice (a 8).x.1 p.put.length (a 8).x.2, .bool p.drop]⟩, int p.err] ∧ (a 8).x = (a 7).x
    | 9 => (a 9).v = .agg ⟨[int p.ends, .slice (a 9).x.1 p.put.length (a 9).x.2, .bool p.drop]⟩ ∧ (a 9).x = (a 8).x
    | 10 => (a 10).v = int p.err
    | 11 => (a 11).v = ptrAt (pb (a 11).b) 0
    | 12 => (a 12).b = (a 11).b ∧ (a 12).x = (a 9).x
    | 13 => (a 13).v = int p.err
    | _ => True
def sgP (b b3 : Nat) (qg2 : Option Addr) (cg2 : Nat) (gh : List Nm) (nm : Nm) : PlanB Unit where
  pl k d := match k with
    | 21 => [pOwn d.b [str nm]]
    | 22 => [pRow 1 (pb d.b) (gh.length + 1) d.c (strs gh ++ [str nm])]
    | _ => []
  con k := match k with
    | 21 => some 22
    | _ => none
  base k := match k with
    | _ => []
  fact k a := match k with
    | 0 => (a 0).v = ptrAt (pb b) 0
    | 1 => (a 1).v = ptrAt (pb b) 0
    | 2 => (a 2).v = ptrAt (pb b) 0
    | 3 => (a 3).v = ptrAt (pb b) 0
    | 4 => (a 4).v = ptrAt (pb b) 1
    | 5 => (a 5).v = .slice qg2 gh.length cg2
    | 6 => (a 6).v = ptrAt (pb b) 0
    | 7 => (a 7).v = ptrAt (pb b) 0
    | 8 => (a 8).v = ptrAt (pb b) 0
    | 9 => (a 9).v = ptrAt (pb b) 1
    | 10 => (a 10).v = .slice qg2 gh.length cg2
    | 11 => (a 11).v = int gh.length
    | 12 => (a 12).v = ptrAt (pb b) 0
    | 13 => (a 13).v = ptrAt (pb b) 0
    | 14 => (a 14).v = ptrAt (pb b) 0
    | 15 => (a 15).v = ptrAt (pb b) 1
    | 16 => (a 16).v = .slice qg2 gh.length cg2
    | 17 => (a 17).v = int gh.length
    | 18 => (a 18).v = .slice qg2 gh.length gh.length
    | 19 => (a 19).v = ptrAt (pb b3) 1
    | 20 => (a 20).v = str nm
    | 21 => (a 21).v = .slice (pb (a 21).b) 1 1
    | 22 => (a 22).v = .slice (pb (a 22).b) (gh.length + 1) (a 22).c
    | 23 => True
    | 24 => True
    | 25 => True
    | 26 => True
    | _ => True
def svP (b b3 : Nat) (qt2 qa : Option Addr) (ct2 ca : Nat) (te : List At) (nm : Nm) (ms2 : List EvM) : PlanB Unit where
  pl k d := match k with
    | 10 => [pOwn d.b [int 3, str nm, str [], .slice qa te.length ca]]
    | 11 => [pRow 4 d.p (ms2.length + 1) d.c (ms2.flatMap EvM.cells ++ [int 3, str nm, str [], .slice qa te.length ca])]
    | _ => []
  con k := match k with
    | 10 => some 11
    | _ => none
  base k := match k with
    | 11 => [pRow 4 qt2 ms2.length ct2 (ms2.flatMap EvM.cells)]
    | _ => []
  fact k a := match k with
    | 0 => (a 0).v = ptrAt (pb b) 0
    | 1 => (a 1).v = ptrAt (pb b) 0
    | 2 => (a 2).v = ptrAt (pb b) 0
    | 3 => (a 3).v = ptrAt (pb b) 0
    | 4 => (a 4).v = ptrAt (pb b) 3
    | 5 => (a 5).v = .slice qt2 ms2.length ct2
    | 6 => (a 6).v = ptrAt (pb b3) 1
    | 7 => (a 7).v = str nm
    | 8 => (a 8).v = .slice qa te.length ca
    | 9 => (a 9).v = .agg ⟨[int 3, str nm, str [], .slice qa te.length ca]⟩
    | 10 => (a 10).v = .slice (pb (a 10).b) 1 1
    | 11 => (a 11).v = .slice (a 11).p (ms2.length + 1) (a 11).c
    | 12 => True
    | 13 => True
    | 14 => True
    | 15 => True
    | _ => True
set_option maxHeartbeats 8000000 in
theorem bStart_ok (m : BaM) (b : Nat) (t : Tok) (tp : Option Addr) (tc : Nat) (hr : rightR m.s.op = true) (hco : m.s.op.length ≤ m.co) (hcg : m.s.gh.length ≤ m.cg) (hb1 : m.s.op.length ≤ 1024) (hb4 : m.s.gh.length ≤ 4194304) (hb2 : m.ms.length ≤ 1024) (hb3 : m.fs.length ≤ 1024) (hdp : m.dp ≤ 1024) (ha : t.attrs.length ≤ 1048576)
    (w0 w : World) (cs : List Plot) (hA : Asc w0) (hi : Im [] w0 tp (t.attrs.flatMap At.cells)) (hS : Sep w0 w (m.plots b cs)) :
    CallsR Tryz.prog 34 #[ptrAt (pb b) 0, .agg ⟨t.cells tp tc⟩] w fun _ w' => BaP m b (startB m.dp m.s t).s (startB m.dp m.s t).es (startB m.dp m.s t).fs w0 cs w' := by
  obtain ⟨⟨op, gh, fr⟩, qo, co, qg, cg, ms, qt, ct, fs, qf, cf, dp, ov⟩ := m
  obtain ⟨tk, nm, tx, te, tf, ta, tb, td⟩ := t
  dsimp only at hr hco hcg hb1 hb2 hb3 hb4 hdp ha hi
  refine enter (l := [ptrAt (pb b) 0, .agg ⟨Tok.cells ⟨tk, nm, tx, te, tf, ta, tb, td⟩ tp tc⟩]) Tryz.func34 rfl Tryz.ntmps34 (by kernel_rfl) rfl ?_
  refine WC_seq ?_
  refine WC_region ?_
  refine sbox (v := .agg ⟨Tok.cells ⟨tk, nm, tx, te, tf, ta, tb, td⟩ tp tc⟩) hS fun b3 w1 hS => ?_
  replace hS : Sep w0 w1 (pOwn b3 [int tk, str nm, str tx, .slice tp te.length tc, .bool tf, int ta, int tb, int td] :: pOwn b [.slice qo op.length co, .slice qg gh.length cg, .bool fr, .slice qt ms.length ct, int dp, .slice qf fs.length cf, .bool true, .bool ov] :: pVw qo (strs op) :: pVw qg (strs gh) :: pRow 4 qt ms.length ct (ms.flatMap EvM.cells) :: pMany (ms.map EvM.row) :: pRow 5 qf fs.length cf (fs.flatMap Fi.cells) :: cs) := hS
  have hopen := fun w' hA' hi' => nOpen_ok op qo co nm hco (by omega) w' w' [] hA' hi' (Sep.start w')
  have hpl : (openR op nm).put.length ≤ 6 := by
    unfold openR
    split
    · exact Nat.zero_le _
    split
    · exact Nat.zero_le _
    · exact ask_put_len op nm
  have hpe : (openR op nm).ends ≤ op.length := by
    unfold openR
    split
    · exact Nat.zero_le _
    split
    · exact Nat.zero_le _
    · show op.length - _ ≤ _; omega
  have hpo : openR op nm = if isAllow nm = false then errR 160 else planR op (askR op nm) := by unfold openR; rw [hr, if_neg Bool.noConfusion]
  generalize openR op nm = p at hopen hpl hpe hpo
  refine sgo ?_
  replace hS : Sep w0 w1 ([] ++ (pOwn b3 [int tk, str nm, str tx, .slice tp te.length tc, .bool tf, int ta, int tb, int td] :: pOwn b [.slice qo op.length co, .slice qg gh.length cg, .bool fr, .slice qt ms.length ct, int dp, .slice qf fs.length cf, .bool true, .bool ov] :: pVw qo (strs op) :: pVw qg (strs gh) :: pRow 4 qt ms.length ct (ms.flatMap EvM.cells) :: pMany (ms.map EvM.row) :: pRow 5 qf fs.length cf (fs.flatMap Fi.cells) :: cs)) := hS
  refine wcplanb (b := []) (stP b b3 qo co op nm p) ⟨.nilIface, none, 0, 0, (none, 0)⟩ hS rfl (fun j oj a a' hj he hd h => ?_) ⟨?_, ?_, ?_, ?_, ?_, ?_, ?_, ?_, ?_, ?_, ?_, ?_, ?_, ?_, trivial⟩ ?_
  · have hjl : j < 14 := (List.getElem?_eq_some_iff.1 hj).1
    match j, hjl with
    | 0, _ | 1, _ | 2, _ | 3, _ | 4, _ | 5, _ | 6, _ | 7, _ | 10, _ | 11, _ | 13, _ => first | (simp only [stP] at h ⊢; rw [← he]; exact h) | exact h
    | 8, _ => simp only [stP] at h ⊢; rw [← he, ← hd 7 (by cases hj; rfl)]; exact h
    | 9, _ => simp only [stP] at h ⊢; rw [← he, ← hd 8 (by cases hj; rfl)]; exact h
    | 12, _ => simp only [stP] at h ⊢; rw [← he, ← hd 9 (by cases hj; rfl), ← hd 11 (by cases hj; rfl)]; exact h
  · intro a σ' w' rest hσ hdep hS'   -- 0: move; pieces:  ..
    have e0 : σ' 0 = ptrAt (pb b) 0 := (hσ 0 (notDstB rfl)).trans rfl
    exact rule_e [(0, _)] ⟨e0, trivial⟩ ⟨⟨ptrAt (pb b) 0, none, 0, 0, (none, 0)⟩, rfl, rfl, hS'⟩
  · intro a σ' w' rest hσ hdep hS'   -- 1: nilCheck; pieces:  ..
    have f0 := (hdep 0 _ rfl rfl).2
    have e9 := ((hdep 0 _ rfl rfl).1 9 rfl).trans f0
    exact rule_y (y_nilcheckp e9 ⟨_, rfl⟩) ⟨⟨ptrAt (pb b) 0, none, 0, 0, (none, 0)⟩, rfl, rfl, hS'⟩
  · intro a σ' w' rest hσ hdep hS'   -- 2: fieldAddr; pieces:  ..
    have f1 := (hdep 1 _ rfl rfl).2
    have e10 := ((hdep 1 _ rfl rfl).1 10 rfl).trans f1
    exact rule_y (y_field e10 ⟨_, rfl⟩ (by decide)) ⟨⟨ptrAt (pb b) 0, none, 0, 0, (none, 0)⟩, rfl, rfl, hS'⟩
  · intro a σ' w' rest hσ hdep hS'   -- 3: fieldAddr; pieces:  ..
    have f2 := (hdep 2 _ rfl rfl).2
    have e11 := ((hdep 2 _ rfl rfl).1 11 rfl).trans f2
    exact rule_y (y_field e11 ⟨_, rfl⟩ (by decide)) ⟨⟨ptrAt (pb b) 0, none, 0, 0, (none, 0)⟩, rfl, rfl, hS'⟩
  · intro a σ' w' rest hσ hdep hS'   -- 4: load; pieces:  ..
    have f3 := (hdep 3 _ rfl rfl).2
    have e12 := ((hdep 3 _ rfl rfl).1 12 rfl).trans f3
    exact rule_y (y_load e12 (Sep.sgv hS' 1 rfl) rfl) ⟨⟨.slice qo op.length co, none, 0, 0, (none, 0)⟩, rfl, rfl, hS'⟩
  · intro a σ' w' rest hσ hdep hS'   -- 5: fieldAddr; pieces:  ..
    have e3 : σ' 3 = ptrAt (pb b3) 0 := (hσ 3 (notDstB rfl)).trans rfl
    exact rule_y (y_field e3 ⟨_, rfl⟩ (by decide)) ⟨⟨ptrAt (pb b3) 1, none, 0, 0, (none, 0)⟩, rfl, rfl, hS'⟩
  · intro a σ' w' rest hσ hdep hS'   -- 6: load; pieces:  ..
    have f5 := (hdep 5 _ rfl rfl).2
    have e14 := ((hdep 5 _ rfl rfl).1 14 rfl).trans f5
    exact rule_y (y_load e14 (Sep.sgv hS' 0 rfl) rfl) ⟨⟨str nm, none, 0, 0, (none, 0)⟩, rfl, rfl, hS'⟩
  · intro a σ' w' rest hσ hdep hS'   -- 7: call; pieces:  ..
    have f4 := (hdep 4 _ rfl rfl).2
    have e13 := ((hdep 4 _ rfl rfl).1 13 rfl).trans f4
    have f6 := (hdep 6 _ rfl rfl).2
    have e15 := ((hdep 6 _ rfl rfl).1 15 rfl).trans f6
    refine rule_call (vals := [.slice qo op.length co, str nm]) (hopen w' (hA.frm hS'.frm) (hS'.vw 2 rfl)) (fun v w2 hR => ?_) (am2 e13 e15)
    obtain ⟨q7, c7, rfl, hS2⟩ := hR
    exact ⟨⟨.tuple #[.agg ⟨[int p.ends, .slice q7 p.put.length c7, .bool p.drop]⟩, int p.err], none, 0, 0, (q7, c7)⟩, rfl, rfl, hS'.seq hS2⟩
  · intro a σ' w' rest hσ hdep hS'   -- 8: move; pieces:  ..
    have f7 := (hdep 7 _ rfl rfl).2
    have e16 := ((hdep 7 _ rfl rfl).1 16 rfl).trans f7
    exact rule_e [(16, _)] ⟨e16, trivial⟩ ⟨⟨.tuple #[.agg ⟨[int p.ends, .slice (a 7).x.1 p.put.length (a 7).x.2, .bool p.drop]⟩, int p.err], none, 0, 0, (a 7).x⟩, rfl, ⟨rfl, rfl⟩, hS'⟩
  · intro a σ' w' rest hσ hdep hS'   -- 9: extract; pieces:  ..
    have f8 := (hdep 8 _ rfl rfl).2
    have e8 := ((hdep 8 _ rfl rfl).1 8 rfl).trans f8.1
    exact rule_e [(8, _)] ⟨e8, trivial⟩ ⟨⟨.agg ⟨[int p.ends, .slice (a 8).x.1 p.put.length (a 8).x.2, .bool p.drop]⟩, none, 0, 0, (a 8).x⟩, rfl, ⟨rfl, rfl⟩, hS'⟩
  · intro a σ' w' rest hσ hdep hS'   -- 10: extract; pieces:  ..
    have f8 := (hdep 8 _ rfl rfl).2
    have e8 := ((hdep 8 _ rfl rfl).1 8 rfl).trans f8.1
    exact rule_e [(8, _)] ⟨e8, trivial⟩ ⟨⟨int p.err, none, 0, 0, (none, 0)⟩, rfl, rfl, hS'⟩
  · intro a σ' w' rest hσ hdep hS'   -- 11: alloc; pieces:  ..
    obtain ⟨b, w2, hy, hS2⟩ := y_salloc (P := Tryz.prog) (e := 94) (d := some 4) hS'
    exact rule_y hy ⟨⟨ptrAt (pb b) 0, none, 0, b, (none, 0)⟩, rfl, rfl, hS2⟩
  · intro a σ' w' rest hσ hdep hS'   -- 12: store; pieces: takes 11 ..
    have f11 := (hdep 11 _ rfl rfl).2
    have e4 := ((hdep 11 _ rfl rfl).1 4 rfl).trans f11
    have f9 := (hdep 9 _ rfl rfl).2
    have e17 := ((hdep 9 _ rfl rfl).1 17 rfl).trans f9.1
    obtain ⟨w2, hy, hS2⟩ := y_sst (P := Tryz.prog) (t := 94) (x := .tmp 4) (y := .tmp 17) hS' 0 rfl e4 e17 rfl (Nat.le_of_ble_eq_true rfl) (by simp [Go.Value.cells, Go.Value.oneCell'])
    exact rule_y hy ⟨⟨undef, none, 0, (a 11).b, (a 9).x⟩, rfl, ⟨rfl, rfl⟩, hS2⟩
  · intro a σ' w' rest hσ hdep hS'   -- 13: assign; pieces:  ..
    have f10 := (hdep 10 _ rfl rfl).2
    have e18 := ((hdep 10 _ rfl rfl).1 18 rfl).trans f10
    exact rule_e [(18, _)] ⟨e18, trivial⟩ ⟨⟨int p.err, none, 0, 0, (none, 0)⟩, rfl, rfl, hS'⟩
  · intro a σ' w' hσ hA' hS'
    have h8 := hA' 8 _ rfl
    have h9 := hA' 9 _ rfl
    have h11 := hA' 11 _ rfl
    have h12 := hA' 12 _ rfl
    have h13 := hA' 13 _ rfl
    have hx : (a 12).x = (a 7).x := h12.2.2.trans (h9.2.2.trans h8.2.2)
    rw [frameOf (σ := σ') [(0, ptrAt (pb b) 0), (3, ptrAt (pb b3) 0), (4, ptrAt (pb (a 12).b) 0), (5, int p.err)] ⟨(hσ 0 (notDst rfl)).trans rfl, (hσ 3 (notDst rfl)).trans rfl, (h11.1 4 rfl).trans (h11.2.trans (by rw [h12.2.1])), (h13.1 5 rfl).trans h13.2, trivial⟩]
    clear hS
    have hS : Sep w0 w' (pRow 1 (a 7).x.1 p.put.length (a 7).x.2 (strs p.put) :: pOwn (a 12).b [int p.ends, .slice (a 12).x.1 p.put.length (a 12).x.2, .bool p.drop] :: pOwn b3 [int tk, str nm, str tx, .slice tp te.length tc, .bool tf, int ta, int tb, int td] :: pOwn b [.slice qo op.length co, .slice qg gh.length cg, .bool fr, .slice qt ms.length ct, int dp, .slice qf fs.length cf, .bool true, .bool ov] :: pVw qo (strs op) :: pVw qg (strs gh) :: pRow 4 qt ms.length ct (ms.flatMap EvM.cells) :: pMany (ms.map EvM.row) :: pRow 5 qf fs.length cf (fs.flatMap Fi.cells) :: cs) := hS'
    rw [hx] at hS
    generalize (a 12).b = b4 at *
    generalize (a 7).x = x7 at *
    clear hA' hσ hS' h8 h9 h11 h12 h13 hx hopen
    obtain ⟨q7, c7⟩ := x7
    replace hS : Sep w0 w' (pOwn b4 [int p.ends, .slice q7 p.put.length c7, .bool p.drop] :: pOwn b3 [int tk, str nm, str tx, .slice tp te.length tc, .bool tf, int ta, int tb, int td] :: pOwn b [.slice qo op.length co, .slice qg gh.length cg, .bool fr, .slice qt ms.length ct, int dp, .slice qf fs.length cf, .bool true, .bool ov] :: pVw qo (strs op) :: pVw qg (strs gh) :: pRow 4 qt ms.length ct (ms.flatMap EvM.cells) :: pMany (ms.map EvM.row) :: pRow 5 qf fs.length cf (fs.flatMap Fi.cells) :: pVw q7 (strs p.put) :: cs) := (hS.rowVw 0 rfl).sel 9 [1, 2, 3, 4, 5, 6, 7, 8, 0]
    obtain ⟨ends, put, drop, err⟩ := p
    dsimp only at hpl hpe hS ⊢
    unfold startB
    dsimp only
    cases hal : isAllow nm with
    | false =>
      rw [hal, if_pos rfl] at hpo
      obtain rfl : err = 160 := congrArg PlanR.err hpo
      rw [if_pos rfl]
      refine sgo ?_
      replace hS : Sep w0 w' ((BaM.mk ⟨op, gh, fr⟩ qo co qg cg ms qt ct fs qf cf dp ov).plots b (pOwn b4 [int ends, .slice q7 put.length c7, .bool drop] :: pOwn b3 [int tk, str nm, str tx, .slice tp te.length tc, .bool tf, int ta, int tb, int td] :: pVw q7 (strs put) :: cs)) := hS.sel 9 [2, 3, 4, 5, 6, 7, 0, 1, 8]
      refine wlcall (bFind_ok _ b ⟨tk, nm, tx, te, tf, ta, tb, td⟩ tp tc 0 nm hco hcg (by dsimp only; omega) w0 _ _ hS) ?_
      repeat clear hS
      rintro _ w5 ⟨m4, hto4, hS⟩
      refine sgo ?_
      (first | refine fp1 (.inl rfl) rfl rfl ?_ | refine fp2 (.inl rfl) rfl rfl rfl ?_ | refine fp3 (.inl rfl) rfl rfl rfl rfl ?_ | refine fp0 (.inr rfl) rfl ?_ | refine fp0 (.inl rfl) rfl ?_ | refine fp1 (.inr rfl) rfl rfl ?_)
      exact ⟨m4, hto4, hS.sel 9 [0, 1, 2, 3, 4, 5]⟩
    | true =>
      rw [hal, if_neg Bool.noConfusion] at hpo
      rw [if_neg Bool.noConfusion]
      obtain rfl : err = 0 := congrArg PlanR.err hpo
      rw [← hpo]
      refine sgo ?_
      refine wlpure (inK_ok 0 (by decide) nm _ (hA.frm hS.frm)) fun w2 hf2 => ?_
      replace hS := hS.grow hf2
      unfold isVoid
      generalize inSet 0 nm = vd
      refine sgo ?_
      (first | refine WC_seq ?_ | skip); refine wcdraw ?_
      refine qgo ?_
      refine QL_nil ?_; intro wd hwd
      replace hS := hS.grow hwd
      refine sgo ?_
      by_cases hd : dp < op.length - ends + put.length + 1
      · rw [if_pos hd]
        refine wcyes ?_ (ht := decide_eq_true (by omega))
        replace hS : Sep w0 wd ((BaM.mk ⟨op, gh, fr⟩ qo co qg cg ms qt ct fs qf cf dp ov).plots b (pOwn b4 [int ends, .slice q7 put.length c7, .bool drop] :: pOwn b3 [int tk, str nm, str tx, .slice tp te.length tc, .bool tf, int ta, int tb, int td] :: pVw q7 (strs put) :: cs)) := hS.sel 9 [2, 3, 4, 5, 6, 7, 0, 1, 8]
        have ho3 := hS.own 7 rfl
        refine sgo ?_
        refine wlcall (bFind_ok _ b ⟨tk, nm, tx, te, tf, ta, tb, td⟩ tp tc 8 nm hco hcg (by dsimp only; omega) w0 _ _ hS) ?_
        clear ho3
        repeat clear hS
        rintro _ w5 ⟨m4, hto4, hS⟩
        obtain ⟨⟨op2, gh2, fr2⟩, qo2, co2, qg2, cg2, ms2, qt2, ct2, fs2, qf2, cf2, dp2, ov2⟩ := m4
        obtain ⟨g1, g2, g3, g4, g5, g6, g7⟩ := hto4
        dsimp only at g1 g2 g3 g4 g5 g6 g7
        injection g1 with e1 e2 e3
        replace e1 := e1.symm
        replace e2 := e2.symm
        replace e3 := e3.symm
        subst e1 e2 e3
        cases vd with
        | true =>
          rw [if_pos rfl]
          refine sgo ?_
          (first | refine fp1 (.inl rfl) rfl rfl ?_ | refine fp2 (.inl rfl) rfl rfl rfl ?_ | refine fp3 (.inl rfl) rfl rfl rfl rfl ?_ | refine fp0 (.inr rfl) rfl ?_ | refine fp0 (.inl rfl) rfl ?_ | refine fp1 (.inr rfl) rfl rfl ?_)
          exact ⟨⟨⟨op, gh, fr⟩, qo2, co2, qg2, cg2, ms2, qt2, ct2, fs2, qf2, cf2, dp2, ov2⟩, ⟨rfl, g2, g3, g4, g5, g6, g7⟩, hS.sel 9 [0, 1, 2, 3, 4, 5]⟩
        | false =>
          rw [if_neg Bool.noConfusion]
          have hsl := strs_len gh
          replace hS : Sep w0 w5 ([] ++ (pOwn b [.slice qo2 op.length co2, .slice qg2 gh.length cg2, .bool fr, .slice qt2 ms2.length ct2, int dp2, .slice qf2 fs2.length cf2, .bool true, .bool ov2] :: pVw qo2 (strs op) :: pVw qg2 (strs gh) :: pRow 4 qt2 ms2.length ct2 (ms2.flatMap EvM.cells) :: pMany (ms2.map EvM.row) :: pRow 5 qf2 fs2.length cf2 (fs2.flatMap Fi.cells) :: pOwn b4 [int ends, .slice q7 put.length c7, .bool drop] :: pOwn b3 [int tk, str nm, str tx, .slice tp te.length tc, .bool tf, int ta, int tb, int td] :: pVw q7 (strs put) :: cs)) := hS
          refine sgo ?_
          refine wcplant (b := []) 23 (sgP b b3 qg2 cg2 gh nm) ⟨.nilIface, none, 0, 0, ()⟩ hS rfl (fun j oj a a' hj he hd h => ?_) ?_ ?_
          · have hjl : j < 27 := (List.getElem?_eq_some_iff.1 hj).1
            match j, hjl with
            | 0, _ | 1, _ | 2, _ | 3, _ | 4, _ | 5, _ | 6, _ | 7, _ | 8, _ | 9, _ | 10, _ | 11, _ | 12, _ | 13, _ | 14, _ | 15, _ | 16, _ | 17, _ | 18, _ | 19, _ | 20, _ | 21, _ | 22, _ | 23, _ | 24, _ | 25, _ | 26, _ => first | (simp only [sgP] at h ⊢; rw [← he]; exact h) | exact h
          · refine ⟨?_, ?_, ?_, ?_, ?_, ?_, ?_, ?_, ?_, ?_, ?_, ?_, ?_, ?_, ?_, ?_, ?_, ?_, ?_, ?_, ?_, ?_, ?_, trivial⟩
            · intro a σ' w' rest hσ hdep hS'   -- 0: move; pieces:  ..
              have e0 : σ' 0 = ptrAt (pb b) 0 := (hσ 0 (notDstB rfl)).trans rfl
              exact rule_e [(0, _)] ⟨e0, trivial⟩ ⟨⟨ptrAt (pb b) 0, none, 0, 0, ()⟩, rfl, rfl, hS'⟩
            · intro a σ' w' rest hσ hdep hS'   -- 1: move; pieces:  ..
              have e0 : σ' 0 = ptrAt (pb b) 0 := (hσ 0 (notDstB rfl)).trans rfl
              exact rule_e [(0, _)] ⟨e0, trivial⟩ ⟨⟨ptrAt (pb b) 0, none, 0, 0, ()⟩, rfl, rfl, hS'⟩
            · intro a σ' w' rest hσ hdep hS'   -- 2: nilCheck; pieces:  ..
              have f1 := (hdep 1 _ rfl rfl).2
              have e56 := ((hdep 1 _ rfl rfl).1 56 rfl).trans f1
              exact rule_y (y_nilcheckp e56 ⟨_, rfl⟩) ⟨⟨ptrAt (pb b) 0, none, 0, 0, ()⟩, rfl, rfl, hS'⟩
            · intro a σ' w' rest hσ hdep hS'   -- 3: fieldAddr; pieces:  ..
              have f2 := (hdep 2 _ rfl rfl).2
              have e57 := ((hdep 2 _ rfl rfl).1 57 rfl).trans f2
              exact rule_y (y_field e57 ⟨_, rfl⟩ (by decide)) ⟨⟨ptrAt (pb b) 0, none, 0, 0, ()⟩, rfl, rfl, hS'⟩
            · intro a σ' w' rest hσ hdep hS'   -- 4: fieldAddr; pieces:  ..
              have f3 := (hdep 3 _ rfl rfl).2
              have e58 := ((hdep 3 _ rfl rfl).1 58 rfl).trans f3
              exact rule_y (y_field e58 ⟨_, rfl⟩ (by decide)) ⟨⟨ptrAt (pb b) 1, none, 0, 0, ()⟩, rfl, rfl, hS'⟩
            · intro a σ' w' rest hσ hdep hS'   -- 5: load; pieces:  ..
              have f4 := (hdep 4 _ rfl rfl).2
              have e59 := ((hdep 4 _ rfl rfl).1 59 rfl).trans f4
              exact rule_y (y_load e59 (Sep.sgv hS' 0 rfl) rfl) ⟨⟨.slice qg2 gh.length cg2, none, 0, 0, ()⟩, rfl, rfl, hS'⟩
            · intro a σ' w' rest hσ hdep hS'   -- 6: move; pieces:  ..
              have e0 : σ' 0 = ptrAt (pb b) 0 := (hσ 0 (notDstB rfl)).trans rfl
              exact rule_e [(0, _)] ⟨e0, trivial⟩ ⟨⟨ptrAt (pb b) 0, none, 0, 0, ()⟩, rfl, rfl, hS'⟩
            · intro a σ' w' rest hσ hdep hS'   -- 7: nilCheck; pieces:  ..
              have f6 := (hdep 6 _ rfl rfl).2
              have e61 := ((hdep 6 _ rfl rfl).1 61 rfl).trans f6
              exact rule_y (y_nilcheckp e61 ⟨_, rfl⟩) ⟨⟨ptrAt (pb b) 0, none, 0, 0, ()⟩, rfl, rfl, hS'⟩
            · intro a σ' w' rest hσ hdep hS'   -- 8: fieldAddr; pieces:  ..
              have f7 := (hdep 7 _ rfl rfl).2
              have e62 := ((hdep 7 _ rfl rfl).1 62 rfl).trans f7
              exact rule_y (y_field e62 ⟨_, rfl⟩ (by decide)) ⟨⟨ptrAt (pb b) 0, none, 0, 0, ()⟩, rfl, rfl, hS'⟩
            · intro a σ' w' rest hσ hdep hS'   -- 9: fieldAddr; pieces:  ..
              have f8 := (hdep 8 _ rfl rfl).2
              have e63 := ((hdep 8 _ rfl rfl).1 63 rfl).trans f8
              exact rule_y (y_field e63 ⟨_, rfl⟩ (by decide)) ⟨⟨ptrAt (pb b) 1, none, 0, 0, ()⟩, rfl, rfl, hS'⟩
            · intro a σ' w' rest hσ hdep hS'   -- 10: load; pieces:  ..
              have f9 := (hdep 9 _ rfl rfl).2
              have e64 := ((hdep 9 _ rfl rfl).1 64 rfl).trans f9
              exact rule_y (y_load e64 (Sep.sgv hS' 0 rfl) rfl) ⟨⟨.slice qg2 gh.length cg2, none, 0, 0, ()⟩, rfl, rfl, hS'⟩
            · intro a σ' w' rest hσ hdep hS'   -- 11: call; pieces:  ..
              have f10 := (hdep 10 _ rfl rfl).2
              have e65 := ((hdep 10 _ rfl rfl).1 65 rfl).trans f10
              exact rule_y (y_len e65 rfl) ⟨⟨int gh.length, none, 0, 0, ()⟩, rfl, rfl, hS'⟩
            · intro a σ' w' rest hσ hdep hS'   -- 12: move; pieces:  ..
              have e0 : σ' 0 = ptrAt (pb b) 0 := (hσ 0 (notDstB rfl)).trans rfl
              exact rule_e [(0, _)] ⟨e0, trivial⟩ ⟨⟨ptrAt (pb b) 0, none, 0, 0, ()⟩, rfl, rfl, hS'⟩
            · intro a σ' w' rest hσ hdep hS'   -- 13: nilCheck; pieces:  ..
              have f12 := (hdep 12 _ rfl rfl).2
              have e67 := ((hdep 12 _ rfl rfl).1 67 rfl).trans f12
              exact rule_y (y_nilcheckp e67 ⟨_, rfl⟩) ⟨⟨ptrAt (pb b) 0, none, 0, 0, ()⟩, rfl, rfl, hS'⟩
            · intro a σ' w' rest hσ hdep hS'   -- 14: fieldAddr; pieces:  ..
              have f13 := (hdep 13 _ rfl rfl).2
              have e68 := ((hdep 13 _ rfl rfl).1 68 rfl).trans f13
              exact rule_y (y_field e68 ⟨_, rfl⟩ (by decide)) ⟨⟨ptrAt (pb b) 0, none, 0, 0, ()⟩, rfl, rfl, hS'⟩
            · intro a σ' w' rest hσ hdep hS'   -- 15: fieldAddr; pieces:  ..
              have f14 := (hdep 14 _ rfl rfl).2
              have e69 := ((hdep 14 _ rfl rfl).1 69 rfl).trans f14
              exact rule_y (y_field e69 ⟨_, rfl⟩ (by decide)) ⟨⟨ptrAt (pb b) 1, none, 0, 0, ()⟩, rfl, rfl, hS'⟩
            · intro a σ' w' rest hσ hdep hS'   -- 16: load; pieces:  ..
              have f15 := (hdep 15 _ rfl rfl).2
              have e70 := ((hdep 15 _ rfl rfl).1 70 rfl).trans f15
              exact rule_y (y_load e70 (Sep.sgv hS' 0 rfl) rfl) ⟨⟨.slice qg2 gh.length cg2, none, 0, 0, ()⟩, rfl, rfl, hS'⟩
            · intro a σ' w' rest hσ hdep hS'   -- 17: call; pieces:  ..
              have f16 := (hdep 16 _ rfl rfl).2
              have e71 := ((hdep 16 _ rfl rfl).1 71 rfl).trans f16
              exact rule_y (y_len e71 rfl) ⟨⟨int gh.length, none, 0, 0, ()⟩, rfl, rfl, hS'⟩
            · intro a σ' w' rest hσ hdep hS'   -- 18: slice; pieces:  ..
              have f5 := (hdep 5 _ rfl rfl).2
              have e60 := ((hdep 5 _ rfl rfl).1 60 rfl).trans f5
              have f11 := (hdep 11 _ rfl rfl).2
              have e66 := ((hdep 11 _ rfl rfl).1 66 rfl).trans f11
              have f17 := (hdep 17 _ rfl rfl).2
              have e72 := ((hdep 17 _ rfl rfl).1 72 rfl).trans f17
              exact rule_y (y_rslice3 e60 e66 e72 ⟨Nat.le_refl _, g7⟩) ⟨⟨.slice qg2 gh.length gh.length, none, 0, 0, ()⟩, rfl, rfl, hS'⟩
            · intro a σ' w' rest hσ hdep hS'   -- 19: fieldAddr; pieces:  ..
              have e3 : σ' 3 = ptrAt (pb b3) 0 := (hσ 3 (notDstB rfl)).trans rfl
              exact rule_y (y_field e3 ⟨_, rfl⟩ (by decide)) ⟨⟨ptrAt (pb b3) 1, none, 0, 0, ()⟩, rfl, rfl, hS'⟩
            · intro a σ' w' rest hσ hdep hS'   -- 20: load; pieces:  ..
              have f19 := (hdep 19 _ rfl rfl).2
              have e74 := ((hdep 19 _ rfl rfl).1 74 rfl).trans f19
              exact rule_y (y_load e74 (Sep.sgv hS' 7 rfl) rfl) ⟨⟨str nm, none, 0, 0, ()⟩, rfl, rfl, hS'⟩
            · intro a σ' w' rest hσ hdep hS'   -- 21: buildSlice; pieces:  ..
              have f20 := (hdep 20 _ rfl rfl).2
              have e75 := ((hdep 20 _ rfl rfl).1 75 rfl).trans f20
              obtain ⟨b, w2, hy, hS2⟩ := y_bs1s (P := Tryz.prog) (t := 41) (d := some 76) (x := .tmp 75) hS' e75 rfl
              exact rule_y hy ⟨⟨.slice (pb b) 1 1, none, 0, b, ()⟩, rfl, rfl, hS2⟩
            · intro a σ' w' rest hσ hdep hS'   -- 22: call; pieces: takes 21 ..
              have f18 := (hdep 18 _ rfl rfl).2
              have e73 := ((hdep 18 _ rfl rfl).1 73 rfl).trans f18
              have f21 := (hdep 21 _ rfl rfl).2
              have e76 := ((hdep 21 _ rfl rfl).1 76 rfl).trans f21
              obtain ⟨b, c2, w2, hy, hS2⟩ := y_appf (P := Tryz.prog) (t := 41) (t' := 41) (ty := 41) (d := some 77) (x := .tmp 73) (y := .tmp 76) (n := gh.length) (m := 1) (size := 1) hS' (hS'.sgv 3 rfl) (hS'.own 0 rfl).sg (by rw [strs_len, Nat.mul_one]) e73 e76 rfl (by simp [Go.Value.oneCell']) rfl (by decide) (by omega) (by omega)
              exact rule_y hy ⟨⟨.slice (pb b) (gh.length + 1) c2, none, c2, b, ()⟩, rfl, rfl, hS2.drop 1 rfl⟩
          · intro a σ' w' hσ hA' hS'
            have h0 := hA' 0 _ rfl
            have h22 := hA' 22 _ rfl
            rw [frameOf (σ := σ') [(55, ptrAt (pb b) 0), (77, .slice (pb (a 22).b) (gh.length + 1) (a 22).c)] ⟨(h0.1 55 rfl).trans h0.2, (h22.1 77 rfl).trans h22.2, trivial⟩]
            repeat clear hS
            have hS : Sep w0 w' (pRow 1 (pb (a 22).b) (gh.length + 1) (a 22).c (strs gh ++ [str nm]) :: pOwn b [.slice qo2 op.length co2, .slice qg2 gh.length cg2, .bool fr, .slice qt2 ms2.length ct2, int dp2, .slice qf2 fs2.length cf2, .bool true, .bool ov2] :: pVw qo2 (strs op) :: pVw qg2 (strs gh) :: pRow 4 qt2 ms2.length ct2 (ms2.flatMap EvM.cells) :: pMany (ms2.map EvM.row) :: pRow 5 qf2 fs2.length cf2 (fs2.flatMap Fi.cells) :: pOwn b4 [int ends, .slice q7 put.length c7, .bool drop] :: pOwn b3 [int tk, str nm, str tx, .slice tp te.length tc, .bool tf, int ta, int tb, int td] :: pVw q7 (strs put) :: cs) := hS'
            have hrow := (hS.row 0 rfl).le_cap
            rw [strs_snoc, show gh.length + 1 = (gh ++ [nm]).length by simp] at hS
            rw [show gh.length + 1 = (gh ++ [nm]).length by simp] at hrow
            rw [show gh.length + 1 = (gh ++ [nm]).length by simp]
            generalize pb (a 22).b = q5 at *
            generalize (a 22).c = c5 at *
            clear hA' hσ hS' h0 h22
            refine sgo ?_
            refine sst_slice hS 1 fun w6 hS => ?_
            refine sgo ?_
            (first | refine fp1 (.inl rfl) rfl rfl ?_ | refine fp2 (.inl rfl) rfl rfl rfl ?_ | refine fp3 (.inl rfl) rfl rfl rfl rfl ?_ | refine fp0 (.inr rfl) rfl ?_ | refine fp0 (.inl rfl) rfl ?_ | refine fp1 (.inr rfl) rfl rfl ?_)
            refine ⟨⟨⟨op, gh ++ [nm], fr⟩, qo2, co2, q5, c5, ms2, qt2, ct2, fs2, qf2, cf2, dp2, ov2⟩, ⟨rfl, g2, g3, g4, g5, g6, hrow.1⟩, ?_⟩
            exact (hS.rowVw 0 rfl).sel 10 [1, 2, 0, 4, 5, 6]
      · rw [if_neg hd]
        refine wcno ?_ (ht := decide_eq_false (by omega))
        replace hS : Sep w0 wd ((BaM.mk ⟨op, gh, fr⟩ qo co qg cg ms qt ct fs qf cf dp ov).plots b (pVw q7 (strs put) :: pOwn b4 [int ends, .slice q7 put.length c7, .bool drop] :: pOwn b3 [int tk, str nm, str tx, .slice tp te.length tc, .bool tf, int ta, int tb, int td] :: cs)) := hS.sel 9 [2, 3, 4, 5, 6, 7, 8, 0, 1]
        have ho4 := hS.own 7 rfl
        have ho3 := hS.own 8 rfl
        refine sgo ?_
        refine wlcall (bFollow_ok _ b ⟨tk, nm, tx, te, tf, ta, tb, td⟩ tp tc ⟨ends, put, drop, 0⟩ q7 c7 hpe hco hcg (by dsimp only; omega) (by dsimp only; omega) (by dsimp only; omega) w0 _ _ hS) ?_
        clear ho3 ho4
        repeat clear hS
        rintro _ w5 ⟨m4, hto4, hS⟩
        have hlen := hto4.len
        simp only [followE, followF, List.length_append, List.length_map, offN_len _ _ hpe] at hlen
        have ho3 := hS.own 8 rfl
        have hi5 := hi.frm hS.frm
        have hl1 := fm_len At.len te
        refine sgo ?_
        refine sapp0 hS hi5.sg (fun qa ca w6 hS => ?_) (hl := by omega) (h1 := att_one te)
        refine sgo ?_
        have hop4 : m4.s.op.length ≤ 2048 := by
          rw [hto4.s, followB, (pushes_op _ _).1, List.length_append, popB_op, List.length_take]; dsimp only; omega
        clear hi5 ho3
        cases vd with
        | true =>
          rw [if_pos rfl]
          obtain ⟨⟨op2, gh2, fr2⟩, qo2, co2, qg2, cg2, ms2, qt2, ct2, fs2, qf2, cf2, dp2, ov2⟩ := m4
          obtain ⟨g1, g2, g3, g4, g5, g6, g7⟩ := hto4
          dsimp only at g1 g2 g3 g4 g5 g6 g7 hlen
          replace hS : Sep w0 w6 ([pRow 4 qt2 ms2.length ct2 (ms2.flatMap EvM.cells)] ++ (pOwn b [.slice qo2 op2.length co2, .slice qg2 gh2.length cg2, .bool fr2, .slice qt2 ms2.length ct2, int dp2, .slice qf2 fs2.length cf2, .bool true, .bool ov2] :: pOwn b3 [int tk, str nm, str tx, .slice tp te.length tc, .bool tf, int ta, int tb, int td] :: pVw qo2 (strs op2) :: pVw qg2 (strs gh2) :: pMany (ms2.map EvM.row) :: pRow 5 qf2 fs2.length cf2 (fs2.flatMap Fi.cells) :: pRow 2 qa te.length ca (te.flatMap At.cells) :: cs)) := hS.sel 10 [4, 1, 9, 2, 3, 5, 6, 0]
          refine sgo ?_
          refine wcplant (b := [pRow 4 qt2 ms2.length ct2 (ms2.flatMap EvM.cells)]) 12 (svP b b3 qt2 qa ct2 ca te nm ms2) ⟨.nilIface, none, 0, 0, ()⟩ hS rfl (fun j oj a a' hj he hd h => ?_) ?_ ?_
          · have hjl : j < 16 := (List.getElem?_eq_some_iff.1 hj).1
            match j, hjl with
            | 0, _ | 1, _ | 2, _ | 3, _ | 4, _ | 5, _ | 6, _ | 7, _ | 8, _ | 9, _ | 10, _ | 11, _ | 12, _ | 13, _ | 14, _ | 15, _ => first | (simp only [svP] at h ⊢; rw [← he]; exact h) | exact h
          · refine ⟨?_, ?_, ?_, ?_, ?_, ?_, ?_, ?_, ?_, ?_, ?_, ?_, trivial⟩
            · intro a σ' w' rest hσ hdep hS'   -- 0: move; pieces:  ..
              have e0 : σ' 0 = ptrAt (pb b) 0 := (hσ 0 (notDstB rfl)).trans rfl
              exact rule_e [(0, _)] ⟨e0, trivial⟩ ⟨⟨ptrAt (pb b) 0, none, 0, 0, ()⟩, rfl, rfl, hS'⟩
            · intro a σ' w' rest hσ hdep hS'   -- 1: move; pieces:  ..
              have e0 : σ' 0 = ptrAt (pb b) 0 := (hσ 0 (notDstB rfl)).trans rfl
              exact rule_e [(0, _)] ⟨e0, trivial⟩ ⟨⟨ptrAt (pb b) 0, none, 0, 0, ()⟩, rfl, rfl, hS'⟩
            · intro a σ' w' rest hσ hdep hS'   -- 2: nilCheck; pieces:  ..
              have f1 := (hdep 1 _ rfl rfl).2
              have e90 := ((hdep 1 _ rfl rfl).1 90 rfl).trans f1
              exact rule_y (y_nilcheckp e90 ⟨_, rfl⟩) ⟨⟨ptrAt (pb b) 0, none, 0, 0, ()⟩, rfl, rfl, hS'⟩
            · intro a σ' w' rest hσ hdep hS'   -- 3: fieldAddr; pieces:  ..
              have f2 := (hdep 2 _ rfl rfl).2
              have e91 := ((hdep 2 _ rfl rfl).1 91 rfl).trans f2
              exact rule_y (y_field e91 ⟨_, rfl⟩ (by decide)) ⟨⟨ptrAt (pb b) 0, none, 0, 0, ()⟩, rfl, rfl, hS'⟩
            · intro a σ' w' rest hσ hdep hS'   -- 4: fieldAddr; pieces:  ..
              have f3 := (hdep 3 _ rfl rfl).2
              have e92 := ((hdep 3 _ rfl rfl).1 92 rfl).trans f3
              exact rule_y (y_field e92 ⟨_, rfl⟩ (by decide)) ⟨⟨ptrAt (pb b) 3, none, 0, 0, ()⟩, rfl, rfl, hS'⟩
            · intro a σ' w' rest hσ hdep hS'   -- 5: load; pieces: sees 11 ..
              have f4 := (hdep 4 _ rfl rfl).2
              have e93 := ((hdep 4 _ rfl rfl).1 93 rfl).trans f4
              exact rule_y (y_load e93 (Sep.sgv hS' 1 rfl) rfl) ⟨⟨.slice qt2 ms2.length ct2, none, 0, 0, ()⟩, rfl, rfl, hS'⟩
            · intro a σ' w' rest hσ hdep hS'   -- 6: fieldAddr; pieces:  ..
              have e3 : σ' 3 = ptrAt (pb b3) 0 := (hσ 3 (notDstB rfl)).trans rfl
              exact rule_y (y_field e3 ⟨_, rfl⟩ (by decide)) ⟨⟨ptrAt (pb b3) 1, none, 0, 0, ()⟩, rfl, rfl, hS'⟩
            · intro a σ' w' rest hσ hdep hS'   -- 7: load; pieces:  ..
              have f6 := (hdep 6 _ rfl rfl).2
              have e95 := ((hdep 6 _ rfl rfl).1 95 rfl).trans f6
              exact rule_y (y_load e95 (Sep.sgv hS' 1 rfl) rfl) ⟨⟨str nm, none, 0, 0, ()⟩, rfl, rfl, hS'⟩
            · intro a σ' w' rest hσ hdep hS'   -- 8: move; pieces:  ..
              have e7 : σ' 7 = .slice qa te.length ca := (hσ 7 (notDstB rfl)).trans rfl
              exact rule_e [(7, _)] ⟨e7, trivial⟩ ⟨⟨.slice qa te.length ca, none, 0, 0, ()⟩, rfl, rfl, hS'⟩
            · intro a σ' w' rest hσ hdep hS'   -- 9: build; pieces:  ..
              have f7 := (hdep 7 _ rfl rfl).2
              have e96 := ((hdep 7 _ rfl rfl).1 96 rfl).trans f7
              have f8 := (hdep 8 _ rfl rfl).2
              have e97 := ((hdep 8 _ rfl rfl).1 97 rfl).trans f8
              exact rule_y (y_build (cells := [int 3, str nm, str [], .slice qa te.length ca]) (by rw [bm3 (x := .const (.int .i64 3)) (y := .tmp 96) (z := .tmp 97) (v := int 3) rfl e96 e97]; simp [fillL, setSeg, Value.cells] <;> rfl)) ⟨⟨.agg ⟨[int 3, str nm, str [], .slice qa te.length ca]⟩, none, 0, 0, ()⟩, rfl, rfl, hS'⟩
            · intro a σ' w' rest hσ hdep hS'   -- 10: buildSlice; pieces: sees 11 ..
              have f9 := (hdep 9 _ rfl rfl).2
              have e98 := ((hdep 9 _ rfl rfl).1 98 rfl).trans f9
              obtain ⟨b', w2, hy, hS2⟩ := y_bs1 (P := Tryz.prog) (t := 23) (d := some 99) (x := .tmp 98) (vs := [int 3, str nm, str [], .slice qa te.length ca]) (size := 4) hS' e98 rfl rfl (by decide) (by decide)
              exact rule_y hy ⟨⟨.slice (pb b') 1 1, none, 0, b', ()⟩, rfl, rfl, hS2⟩
            · intro a σ' w' rest hσ hdep hS'   -- 11: call; pieces: takes 10, base 11 ..
              have f5 := (hdep 5 _ rfl rfl).2
              have e94 := ((hdep 5 _ rfl rfl).1 94 rfl).trans f5
              have f10 := (hdep 10 _ rfl rfl).2
              have e99 := ((hdep 10 _ rfl rfl).1 99 rfl).trans f10
              obtain ⟨p2, c2, w2, hy, hS2⟩ := y_app (P := Tryz.prog) (t := 23) (t' := 23) (ty := 23) (d := some 100) (x := .tmp 94) (y := .tmp 99) (n := 1) hS' 1 (hS'.own 0 rfl).sg rfl e94 e99 rfl (by simp [Go.Value.oneCell']) rfl (by decide) (by omega)
              exact rule_y hy ⟨⟨.slice p2 (ms2.length + 1) c2, p2, c2, 0, ()⟩, rfl, rfl, hS2.drop 0 rfl⟩
          · intro a σ' w' hσ hA' hS'
            have h0 := hA' 0 _ rfl
            have h11 := hA' 11 _ rfl
            rw [frameOf (σ := σ') [(0, ptrAt (pb b) 0), (89, ptrAt (pb b) 0), (100, .slice (a 11).p (ms2.length + 1) (a 11).c)] ⟨(hσ 0 (notDst rfl)).trans rfl, (h0.1 89 rfl).trans h0.2, (h11.1 100 rfl).trans h11.2, trivial⟩]
            repeat clear hS
            have hS : Sep w0 w' (pRow 4 (a 11).p (ms2.length + 1) (a 11).c (ms2.flatMap EvM.cells ++ (EvM.mk (voE nm te) qa ca).cells) :: pOwn b [.slice qo2 op2.length co2, .slice qg2 gh2.length cg2, .bool fr2, .slice qt2 ms2.length ct2, int dp2, .slice qf2 fs2.length cf2, .bool true, .bool ov2] :: pOwn b3 [int tk, str nm, str tx, .slice tp te.length tc, .bool tf, int ta, int tb, int td] :: pVw qo2 (strs op2) :: pVw qg2 (strs gh2) :: pMany (ms2.map EvM.row) :: pRow 5 qf2 fs2.length cf2 (fs2.flatMap Fi.cells) :: pRow 2 qa te.length ca (te.flatMap At.cells) :: cs) := hS'
            rw [evs_flat, show ms2.length + 1 = (ms2 ++ [EvM.mk (voE nm te) qa ca]).length by simp] at hS
            rw [show ms2.length + 1 = (ms2 ++ [EvM.mk (voE nm te) qa ca]).length by simp]
            generalize (a 11).p = q5 at *
            generalize (a 11).c = c5 at *
            clear hA' hσ hS' h0 h11
            refine sgo ?_
            refine sst_slice hS 1 fun w7 hS => ?_
            refine sgo ?_
            refine sst_bool hS 1 fun w8 hS => ?_
            refine sgo ?_
            (first | refine fp1 (.inl rfl) rfl rfl ?_ | refine fp2 (.inl rfl) rfl rfl rfl ?_ | refine fp3 (.inl rfl) rfl rfl rfl rfl ?_ | refine fp0 (.inr rfl) rfl ?_ | refine fp0 (.inl rfl) rfl ?_ | refine fp1 (.inr rfl) rfl rfl ?_)
            refine ⟨⟨⟨op2, gh2, false⟩, qo2, co2, qg2, cg2, ms2 ++ [EvM.mk (voE nm te) qa ca], q5, c5, fs2, qf2, cf2, dp2, ov2⟩, ⟨?_, ?_, g3, g4, g5, g6, g7⟩, ?_⟩
            · dsimp only; rw [← g1]
            · dsimp only; rw [evs_snoc, g2, List.append_assoc]
            · have h := (hS.sel 8 [7, 1, 3, 4, 0, 5, 6]).tell1
              simp only [BaM.plots, BaM.cells]
              rw [List.map_append]
              exact h
        | false =>
          rw [if_neg Bool.noConfusion]
          have ho3 := hS.own 9 rfl
          refine sgo ?_
          refine wcdrawt 6 ?_
          refine qgo ?_
          refine QL_nil ?_; intro wd hwd
          replace hS := hS.grow hwd
          refine wlcall (bPush_ok m4 b nm te qa ca hto4.co hto4.cg (by omega) (by omega) w0 _ _ hS) ?_
          clear ho3
          repeat clear hS
          rintro _ w7 ⟨m5, hto5, hS⟩
          refine sgo ?_
          (first | refine fp1 (.inl rfl) rfl rfl ?_ | refine fp2 (.inl rfl) rfl rfl rfl ?_ | refine fp3 (.inl rfl) rfl rfl rfl rfl ?_ | refine fp0 (.inr rfl) rfl ?_ | refine fp0 (.inl rfl) rfl ?_ | refine fp1 (.inr rfl) rfl rfl ?_)
          have h := hto4.trans hto5
          rw [hto4.s, List.append_nil] at h
          exact ⟨m5, h, hS.sel 9 [0, 1, 2, 3, 4, 5]⟩
end Go.Proofs.YtmnnffenijjpcaaGreatDoor

/-
  Package strings: TrimLeft of one byte, Trim of the blanks.
-/
set_option linter.unusedSimpArgs false
set_option linter.unusedVariables false
set_option linter.unnecessarySimpa false
namespace Go.Sv
open Go Go.RowKit
theorem sallocO {P : Program} {n : Nat} {ds : Ctx} {ops : Array Oper} {Q : Exit → Ctx → Env → World → Prop} {rest : List Oper} {σ : GE} {w0 w : World} {d : Nat} {ty e : TypeId} {pos : String} {af : Array Edge} {zv : Value} {size bytes : Nat} {cs : List Plot} [hi : Inf P e zv size bytes] (hS : Sep w0 w cs) (h : ∀ b w' l, l.length = size → Sep w0 w' (pOwn b l :: cs) → WL P n ds ops Q rest (real (updG σ d ⟨ptrAt (pb b) 0, true⟩)) w') (hz : zv.cells.size = size := by kernel_rfl) :
    WL P n ds ops Q (⟨some d, .alloc e, ty, pos, af, none⟩ :: rest) (real σ) w := salloc hS fun b w' hS' => h b w' _ (by rw [Array.length_toList]; exact hz) hS'
end Go.Sv
namespace Go.Proofs.YtmnnffenijjpcaaGreatDoor
open Go Go.Sv Go.RowKit

def dropE (p : UInt8 → Bool) (s : List UInt8) : List UInt8 := (s.reverse.dropWhile p).reverse
theorem dropE_snoc (p : UInt8 → Bool) (s : List UInt8) (x : UInt8) : dropE p (s ++ [x]) = if p x then dropE p s else s ++ [x] := by
  unfold dropE
  rw [List.reverse_append]
  simp only [List.reverse_cons, List.reverse_nil, List.nil_append, List.singleton_append, List.dropWhile_cons]
  split
  · rfl
  · simp
theorem snoc_cases8 (s : List UInt8) : s = [] ∨ ∃ t x, s = t ++ [x] := by
  rcases List.eq_nil_or_concat s with h | ⟨t, x, h⟩
  · exact .inl h
  · exact .inr ⟨t, x, by rw [h, List.concat_eq_append]⟩
theorem dropE_len (p : UInt8 → Bool) (s : List UInt8) : (dropE p s).length ≤ s.length := by
  unfold dropE
  have := (List.dropWhile_sublist (p := p) (l := s.reverse)).length_le
  simpa using this
theorem trimLeft10_ok (s : List UInt8) (w : World) : PureC Tryz.prog 60 #[str s, str [10]] w (str (lfR s)) := by
  refine Calls.mono (Tryz.strings_TrimLeft_one ⟨s.toArray⟩ 10 (by decide) w) ?_
  rintro e w' ⟨rfl, rfl⟩
  refine ⟨_, rfl, ?_, Frm.refl _⟩
  show str _ = str _
  congr 1
def blks : List UInt8 := [9, 10, 12, 32]
theorem blks_in (x : UInt8) : blks.contains x = blkR x := by
  unfold blks blkR
  rw [Bool.eq_iff_iff]; simp
/-- the cells of a set of the blanks -/
def BlkC (cells : List Value) : Prop := cells.length = 256 ∧ ∀ x : UInt8, cells[x.toNat]? = some (.bool (blkR x))
theorem blkC : BlkC (Lib.setCells blks).toList := ⟨by rw [Array.length_toList, Lib.setCells_size], fun x => by rw [Array.getElem?_toList, Lib.setCells_at, blks_in]⟩
theorem contains_ok (b : Nat) (x : UInt8) (cells : List Value) (hcl : BlkC cells) (w : World) (ho : Own w b cells) : PureC Tryz.prog 112 #[ptrAt (pb b) 0, byt x.toNat] w (.bool (blkR x)) := by
  obtain ⟨hl, hat⟩ := hcl
  have hx : x.toNat < 256 := x.toNat_lt
  have hc : w.cell? ⟨b, x.toNat, none⟩ = some (.bool (blkR x)) := by
    rcases ho.sg with h | ⟨a, ha, h⟩
    · rw [h] at hl; cases hl
    · obtain rfl : (⟨b, 0, none⟩ : Addr) = a := Option.some.inj ha
      have := h x.toNat (by omega)
      rw [hat] at this
      rw [← this]
      have e : (⟨b, 0, none⟩ : Addr).add x.toNat = ⟨b, x.toNat, none⟩ := by
        unfold Addr.add
        split
        · rename_i h0; rw [show x.toNat = 0 by simpa using h0]
        · simp
      rw [e]
  refine Calls.mono (Tryz.asciiSet_contains b x (blkR x) w hc) ?_
  rintro e w' ⟨rfl, rfl⟩
  exact ⟨_, rfl, rfl, Frm.refl _⟩
set_option maxHeartbeats 2000000 in
theorem trimLA_ok (s : List UInt8) (b : Nat) (cells : List Value) (hcl : BlkC cells) (hb : s.length ≤ 1048576) (w : World) (ho : Own w b cells) : PureC Tryz.prog 84 #[str s, ptrAt (pb b) 0] w (str (s.dropWhile blkR)) := by
  have hF : Frm w w := Frm.refl w
  refine enter (l := [str s, ptrAt (pb b) 0]) Tryz.func84 rfl Tryz.ntmps84 (by kernel_rfl) rfl ?_
  refine sgo ?_
  refine wcloop (X := List UInt8) (fun x => [(0, str x), (1, ptrAt (pb b) 0)]) (fun x wr => Frm w wr ∧ x.length ≤ s.length ∧ x.dropWhile blkR = s.dropWhile blkR) (fun x => x.length) s ⟨rfl, rfl, trivial⟩ ⟨hF, Nat.le_refl _, rfl⟩ ?_
  clear hF
  rintro x wr ρ ⟨hF, hl, hd⟩
  cases x with
  | nil =>
    simp only [List.length_nil]
    refine sgo ?_
    rw [← hd]
    refine sgo ?_
    (first | refine fp1 (.inl rfl) rfl rfl ?_ | refine fp2 (.inl rfl) rfl rfl rfl ?_ | refine fp3 (.inl rfl) rfl rfl rfl rfl ?_ | refine fp0 (.inr rfl) rfl ?_ | refine fp0 (.inl rfl) rfl ?_ | refine fp1 (.inr rfl) rfl rfl ?_); refine ⟨?_, by (first | exact Frm.refl _ | assumption | exact Go.Sv.Sep.frm (by assumption) | (refine Frm.trans ?_ (by assumption); first | exact Frm.refl _ | assumption))⟩; (try simp only [realB, rv_true, Nat.reduceBEq, cond_true, cond_false, entG, real_lif, updGL])
    rfl
  | cons y x =>
    have hlen : (y :: x).length = x.length + 1 := rfl
    have h0 : (y :: x)[Int.toNat 0]?.getD 0 = y := rfl
    have h1 : (y :: x).drop 1 = x := rfl
    have hdw : (y :: x).dropWhile blkR = if blkR y then x.dropWhile blkR else y :: x := by rw [List.dropWhile_cons]
    generalize hz : y :: x = z at *
    refine sgo ?_
    refine wcyes ?_ (ht := decide_eq_true (by omega))
    refine sgo ?_
    rw [h0]
    refine wlpure (contains_ok b y cells hcl _ (ho.frm hF)) fun w2 hf2 => ?_
    cases hbk : blkR y with
    | true =>
      rw [hbk, if_pos rfl] at hdw
      refine sgo ?_
      refine ⟨x, ⟨?_, rfl, trivial⟩, ⟨hF.trans hf2, by omega, hdw ▸ hd⟩, by omega⟩
      show str _ = str x
      rw [← h1]; rfl
    | false =>
      rw [hbk, if_neg Bool.noConfusion] at hdw
      have e : z = s.dropWhile blkR := by rw [← hd, hdw]
      refine sgo ?_
      (first | refine fp1 (.inl rfl) rfl rfl ?_ | refine fp2 (.inl rfl) rfl rfl rfl ?_ | refine fp3 (.inl rfl) rfl rfl rfl rfl ?_ | refine fp0 (.inr rfl) rfl ?_ | refine fp0 (.inl rfl) rfl ?_ | refine fp1 (.inr rfl) rfl rfl ?_); refine ⟨?_, by (first | exact Frm.refl _ | assumption | exact Go.Sv.Sep.frm (by assumption) | (refine Frm.trans ?_ (by assumption); first | exact Frm.refl _ | assumption))⟩; (try simp only [realB, rv_true, Nat.reduceBEq, cond_true, cond_false, entG, real_lif, updGL])
      rw [e]
set_option maxHeartbeats 2000000 in
theorem trimRA_ok (s : List UInt8) (b : Nat) (cells : List Value) (hcl : BlkC cells) (hb : s.length ≤ 1048576) (w : World) (ho : Own w b cells) : PureC Tryz.prog 91 #[str s, ptrAt (pb b) 0] w (str (dropE blkR s)) := by
  have hF : Frm w w := Frm.refl w
  refine enter (l := [str s, ptrAt (pb b) 0]) Tryz.func91 rfl Tryz.ntmps91 (by kernel_rfl) rfl ?_
  refine sgo ?_
  refine wcloop (X := List UInt8) (fun x => [(0, str x), (1, ptrAt (pb b) 0)]) (fun x wr => Frm w wr ∧ x.length ≤ s.length ∧ dropE blkR x = dropE blkR s) (fun x => x.length) s ⟨rfl, rfl, trivial⟩ ⟨hF, Nat.le_refl _, rfl⟩ ?_
  clear hF
  rintro x wr ρ ⟨hF, hl, hd⟩
  rcases snoc_cases8 x with rfl | ⟨x, y, rfl⟩
  · simp only [List.length_nil]
    refine sgo ?_
    rw [← hd]
    refine sgo ?_
    (first | refine fp1 (.inl rfl) rfl rfl ?_ | refine fp2 (.inl rfl) rfl rfl rfl ?_ | refine fp3 (.inl rfl) rfl rfl rfl rfl ?_ | refine fp0 (.inr rfl) rfl ?_ | refine fp0 (.inl rfl) rfl ?_ | refine fp1 (.inr rfl) rfl rfl ?_); refine ⟨?_, by (first | exact Frm.refl _ | assumption | exact Go.Sv.Sep.frm (by assumption) | (refine Frm.trans ?_ (by assumption); first | exact Frm.refl _ | assumption))⟩; (try simp only [realB, rv_true, Nat.reduceBEq, cond_true, cond_false, entG, real_lif, updGL])
    rfl
  · have hlen : (x ++ [y]).length = x.length + 1 := by simp
    have h0 : (x ++ [y])[((x.length : Nat) : Int).toNat]?.getD 0 = y := by simp
    have h1 : (x ++ [y]).take x.length = x := by simp
    have hdw := dropE_snoc blkR x y
    generalize hz : x ++ [y] = z at *
    have i1 : ((z.length : Int) - 1) = (x.length : Int) := by omega
    refine sgo ?_
    refine wcyes ?_ (ht := decide_eq_true (by omega))
    refine sgo ?_
    rw [i1]
    refine sgo ?_
    rw [h0]
    refine wlpure (contains_ok b y cells hcl _ (ho.frm hF)) fun w2 hf2 => ?_
    cases hbk : blkR y with
    | true =>
      rw [hbk, if_pos rfl] at hdw
      refine sgo ?_
      rw [i1]
      refine sgo ?_
      refine ⟨x, ⟨?_, rfl, trivial⟩, ⟨hF.trans hf2, by omega, hdw ▸ hd⟩, by omega⟩
      exact congrArg str h1
    | false =>
      rw [hbk, if_neg Bool.noConfusion] at hdw
      have e : z = dropE blkR s := by rw [← hd, hdw]
      refine sgo ?_
      (first | refine fp1 (.inl rfl) rfl rfl ?_ | refine fp2 (.inl rfl) rfl rfl rfl ?_ | refine fp3 (.inl rfl) rfl rfl rfl rfl ?_ | refine fp0 (.inr rfl) rfl ?_ | refine fp0 (.inl rfl) rfl ?_ | refine fp1 (.inr rfl) rfl rfl ?_); refine ⟨?_, by (first | exact Frm.refl _ | assumption | exact Go.Sv.Sep.frm (by assumption) | (refine Frm.trans ?_ (by assumption); first | exact Frm.refl _ | assumption))⟩; (try simp only [realB, rv_true, Nat.reduceBEq, cond_true, cond_false, entG, real_lif, updGL])
      rw [e]
/-- Trim of the blanks -/
def trbR (s : List UInt8) : List UInt8 := (dropE blkR s).dropWhile blkR
theorem dw_nil (p : UInt8 → Bool) : ∀ l : List UInt8, decide (l.dropWhile p = []) = l.all p
  | [] => rfl
  | c :: l => by
    rw [List.dropWhile_cons, List.all_cons]
    cases hc : p c with
    | true => rw [if_pos rfl, Bool.true_and]; exact dw_nil p l
    | false => simp
theorem dropE_all (p : UInt8 → Bool) : ∀ (n : Nat) (s : List UInt8), s.length = n → (dropE p s).all p = s.all p
  | 0, s, h => by obtain rfl := List.eq_nil_of_length_eq_zero h; rfl
  | n + 1, s, h => by
    rcases snoc_cases8 s with rfl | ⟨t, x, rfl⟩
    · cases h
    · rw [dropE_snoc]
      split
      · rename_i hx
        rw [dropE_all p n t (by simpa using h), List.all_append]; simp [hx]
      · rfl
theorem trb_nil (s : List UInt8) : decide (trbR s = []) = isBlank s := by
  unfold trbR isBlank
  rw [dw_nil, dropE_all blkR _ s rfl]
set_option maxRecDepth 100000 in
theorem mkSet_ok (w : World) : CallsR Tryz.prog 83 #[str [9, 10, 12, 32]] w fun v w' => ∃ cells : List Value, v = .tuple #[.agg ⟨cells⟩, .bool true] ∧ BlkC cells ∧ (cells.all fun c => c.oneCell') = true ∧ Frm w w' := by
  refine Calls.mono (Tryz.strings_makeASCIISet (fun w => (run_zeroValue w).trans (by kernel_rfl)) ⟨#[9, 10, 12, 32]⟩ w (by decide) (fun j b hb => of_decide_eq_true (List.all_eq_true.1 (show ([9, 10, 12, 32] : List UInt8).all (fun b => decide (b.toNat < 128)) = true by decide) b (List.mem_of_getElem? hb)))) ?_
  rintro e w' ⟨rfl, rfl⟩
  refine ⟨_, rfl, (Lib.setCells blks).toList, rfl, blkC, ?_, frm_alloc _ _⟩
  rw [Lib.setCells_eq]
  simp [Value.oneCell']
set_option maxHeartbeats 2000000 in
theorem trimBlk_ok (s : List UInt8) (hb : s.length ≤ 1048576) (w : World) : PureC Tryz.prog 62 #[str s, str [9, 10, 12, 32]] w (str (trbR s)) := by
  have hS := Sep.start w
  have hlr := dropE_len blkR s
  refine enter (l := [str s, str [9, 10, 12, 32]]) Tryz.func62 rfl Tryz.ntmps62 (by kernel_rfl) rfl ?_
  refine sgo ?_
  by_cases hs : s = []
  · subst hs
    refine wcyes ?_ (ht := by decide)
    refine sgo ?_
    (first | refine fp1 (.inl rfl) rfl rfl ?_ | refine fp2 (.inl rfl) rfl rfl rfl ?_ | refine fp3 (.inl rfl) rfl rfl rfl rfl ?_ | refine fp0 (.inr rfl) rfl ?_ | refine fp0 (.inl rfl) rfl ?_ | refine fp1 (.inr rfl) rfl rfl ?_); refine ⟨?_, by (first | exact Frm.refl _ | assumption | exact Go.Sv.Sep.frm (by assumption) | (refine Frm.trans ?_ (by assumption); first | exact Frm.refl _ | assumption))⟩; (try simp only [realB, rv_true, Nat.reduceBEq, cond_true, cond_false, entG, real_lif, updGL])
    rfl
  · refine wcno ?_ (ht := by rw [pkb_or, decide_eq_false hs]; rfl)
    refine sgo ?_
    refine wlcall (mkSet_ok _) ?_
    rintro _ w2 ⟨cells, rfl, hcl, hone, hf2⟩
    replace hS := hS.grow hf2
    refine sgo ?_
    refine sallocO hS fun b w3 l hll hS => ?_
    refine sgo ?_
    refine ssta (vs := cells) hS 0 (fun w4 hS => ?_) (hv := ⟨hcl.1, hll⟩) (h1 := hone)
    refine sgo ?_
    refine wlpure (trimRA_ok s b cells hcl hb _ (hS.own 0 rfl)) fun w5 hf5 => ?_
    replace hS := hS.grow hf5
    refine sgo ?_
    refine wlpure (trimLA_ok _ b cells hcl (by omega) _ (hS.own 0 rfl)) fun w6 hf6 => ?_
    replace hS := hS.grow hf6
    refine sgo ?_
    (first | refine fp1 (.inl rfl) rfl rfl ?_ | refine fp2 (.inl rfl) rfl rfl rfl ?_ | refine fp3 (.inl rfl) rfl rfl rfl rfl ?_ | refine fp0 (.inr rfl) rfl ?_ | refine fp0 (.inl rfl) rfl ?_ | refine fp1 (.inr rfl) rfl rfl ?_); refine ⟨?_, by (first | exact Frm.refl _ | assumption | exact Go.Sv.Sep.frm (by assumption) | (refine Frm.trans ?_ (by assumption); first | exact Frm.refl _ | assumption))⟩; (try simp only [realB, rv_true, Nat.reduceBEq, cond_true, cond_false, entG, real_lif, updGL])
    rfl
end Go.Proofs.YtmnnffenijjpcaaGreatDoor

/-
  Package balance: text.
-/
set_option linter.unusedSimpArgs false
set_option linter.unusedVariables false
set_option linter.unnecessarySimpa false
namespace Go.Proofs.YtmnnffenijjpcaaGreatDoor
open Go Go.Sv Go.RowKit

def txP (b b3 : Nat) (qo : Option Addr) (co : Nat) (op : List Nm) (x : Nm) (p : PlanR) : PlanB (Option Addr × Nat) where
  pl k d := match k with
    | 8 => [pRow 1 d.x.1 p.put.length d.x.2 (strs p.put)]
    | 12 => [pOwn d.b [int 0, .slice none 0 0, .bool false]]
    | 13 => [pOwn d.b [int p.ends, .slice d.x.1 p.put.length d.x.2, .bool p.drop]]
    | _ => []
  con k := match k with
    | 12 => some 13
    | _ => none
  base k := match k with
    | _ => []
  fact k a := match k with
    | 0 => (a 0).v = ptrAt (pb b) 0
    | 1 => (a 1).v = ptrAt (pb b) 0
    | 2 => (a 2).v = ptrAt (pb b) 0
    | 3 => (a 3).v = ptrAt (pb b) 0
    | 4 => (a 4).v = .slice qo op.length co
    | 5 => (a 5).v = str x
    | 6 => (a 6).v = str (trbR x)
    | 7 => (a 7).v = .bool (isBlank x)
    | 8 => (a 8).v = .tuple #[.agg ⟨[int p.ends, .slice (a 8).x.1 p.put.length (a 8).x.2, .bool p.drop]⟩, int p.err]
    | 9 => (a 9).v = .tuple #[.agg ⟨[int p.ends, .slice (a 9).x.1 p.put.length (a 9).x.2, .bool p.drop]⟩, int p.err] ∧ (a 9).x = (a 8).x
    | 10 => (a 10).v = .agg ⟨[int p.ends, .slice (a 10).x.1 p.put.length (a 10).x.2, .bool p.drop]⟩ ∧ (a 10).x = (a 9).x
    | 11 => (a 11).v = int p.err
    | 12 => (a 12).v = ptrAt (pb (a 12).b) 0
    | 13 => (a 13).b = (a 12).b ∧ (a 13).x = (a 10).x
    | 14 => (a 14).v = int p.err
    | _ => True
set_option maxHeartbeats 8000000 in
theorem bText_ok (m : BaM) (b : Nat) (t : Tok) (tp : Option Addr) (tc : Nat) (hr : rightR m.s.op = true) (hco : m.s.op.length ≤ m.co) (hcg : m.s.gh.length ≤ m.cg) (hb1 : m.s.op.length ≤ 1024) (hb2 : m.ms.length ≤ 1024) (hb3 : m.fs.length ≤ 1024) (hdp : m.dp ≤ 1024) (htx : t.text ≠ []) (htl : t.text.length ≤ 1048576)
    (w0 w : World) (cs : List Plot) (hA : Asc w0) (hS : Sep w0 w (m.plots b cs)) :
    CallsR Tryz.prog 35 #[ptrAt (pb b) 0, .agg ⟨t.cells tp tc⟩] w fun _ w' => BaP m b (textB m.dp m.s t).s (textB m.dp m.s t).es (textB m.dp m.s t).fs w0 cs w' := by
  obtain ⟨⟨op, gh, fr⟩, qo, co, qg, cg, ms, qt, ct, fs, qf, cf, dp, ov⟩ := m
  obtain ⟨tk, nm, tx, te, tf, ta, tb, td⟩ := t
  dsimp only at hr hco hcg hb1 hb2 hb3 hdp htx htl
  refine enter (l := [ptrAt (pb b) 0, .agg ⟨Tok.cells ⟨tk, nm, tx, te, tf, ta, tb, td⟩ tp tc⟩]) Tryz.func35 rfl Tryz.ntmps35 (by kernel_rfl) rfl ?_
  refine WC_seq ?_
  refine WC_region ?_
  refine sbox (v := .agg ⟨Tok.cells ⟨tk, nm, tx, te, tf, ta, tb, td⟩ tp tc⟩) hS fun b3 w1 hS => ?_
  replace hS : Sep w0 w1 (pOwn b3 [int tk, str nm, str tx, .slice tp te.length tc, .bool tf, int ta, int tb, int td] :: pOwn b [.slice qo op.length co, .slice qg gh.length cg, .bool fr, .slice qt ms.length ct, int dp, .slice qf fs.length cf, .bool true, .bool ov] :: pVw qo (strs op) :: pVw qg (strs gh) :: pRow 4 qt ms.length ct (ms.flatMap EvM.cells) :: pMany (ms.map EvM.row) :: pRow 5 qf fs.length cf (fs.flatMap Fi.cells) :: cs) := hS
  refine sgo ?_
  unfold textB
  dsimp only
  refine wcutt (X := Unit) (fun _ => [(0, ptrAt (pb b) 0), (3, ptrAt (pb b3) 0), (4, str (headB ⟨op, gh, fr⟩ ⟨tk, nm, tx, te, tf, ta, tb, td⟩))])
    (fun _ wr => headB ⟨op, gh, fr⟩ ⟨tk, nm, tx, te, tf, ta, tb, td⟩ ≠ [] ∧ (headB ⟨op, gh, fr⟩ ⟨tk, nm, tx, te, tf, ta, tb, td⟩).length ≤ 1048576 ∧ Sep w0 wr (pOwn b3 [int tk, str nm, str tx, .slice tp te.length tc, .bool tf, int ta, int tb, int td] :: pOwn b [.slice qo op.length co, .slice qg gh.length cg, .bool fr, .slice qt ms.length ct, int dp, .slice qf fs.length cf, .bool true, .bool ov] :: pVw qo (strs op) :: pVw qg (strs gh) :: pRow 4 qt ms.length ct (ms.flatMap EvM.cells) :: pMany (ms.map EvM.row) :: pRow 5 qf fs.length cf (fs.flatMap Fi.cells) :: cs)) ?_ ?_
  · cases fr with
    | false =>
      have e : headB ⟨op, gh, false⟩ ⟨tk, nm, tx, te, tf, ta, tb, td⟩ = tx := by unfold headB; dsimp only; rw [if_neg Bool.noConfusion]
      rw [e]
      refine sgo ?_
      exact ⟨(), ⟨rfl, rfl, rfl, trivial⟩, htx, htl, hS⟩
    | true =>
      have e : headB ⟨op, gh, true⟩ ⟨tk, nm, tx, te, tf, ta, tb, td⟩ = lfR tx := by unfold headB; dsimp only; rw [if_pos rfl]
      have hl := lf_len tx
      rw [e]
      refine sgo ?_
      refine wlpure (trimLeft10_ok tx _) fun w2 hf2 => ?_
      replace hS := hS.grow hf2
      refine sgo ?_
      by_cases hx : lfR tx = []
      · rw [if_pos hx]
        refine wcyes ?_ (ht := decide_eq_true hx)
        refine sgo ?_
        (first | refine fp1 (.inl rfl) rfl rfl ?_ | refine fp2 (.inl rfl) rfl rfl rfl ?_ | refine fp3 (.inl rfl) rfl rfl rfl rfl ?_ | refine fp0 (.inr rfl) rfl ?_ | refine fp0 (.inl rfl) rfl ?_ | refine fp1 (.inr rfl) rfl rfl ?_)
        exact ⟨⟨⟨op, gh, true⟩, qo, co, qg, cg, ms, qt, ct, fs, qf, cf, dp, ov⟩, ⟨rfl, (List.append_nil _).symm, (List.append_nil _).symm, rfl, rfl, hco, hcg⟩, hS.tail⟩
      · refine wcno ?_ (ht := decide_eq_false hx)
        refine sgo ?_
        exact ⟨(), ⟨rfl, rfl, rfl, trivial⟩, hx, by omega, hS⟩
  repeat clear hS
  rintro _ w2 ρ ⟨hx, hxl, hS⟩
  rw [if_neg hx]
  generalize headB ⟨op, gh, fr⟩ ⟨tk, nm, tx, te, tf, ta, tb, td⟩ = x at *
  have hopen := fun w' hA' hi' => nText_ok op qo co (isBlank x) hco (by omega) w' w' [] hA' hi' (Sep.start w')
  obtain ⟨hpe, hpl⟩ := nText_bnd op (isBlank x)
  have hpo : (nTextR op (isBlank x)).err = 0 := by
    unfold nTextR
    rw [hr, if_neg Bool.noConfusion]
    repeat' split
    all_goals rfl
  generalize nTextR op (isBlank x) = p at hopen hpl hpe hpo ⊢
  replace hS : Sep w0 w2 ([] ++ (pOwn b3 [int tk, str nm, str tx, .slice tp te.length tc, .bool tf, int ta, int tb, int td] :: pOwn b [.slice qo op.length co, .slice qg gh.length cg, .bool fr, .slice qt ms.length ct, int dp, .slice qf fs.length cf, .bool true, .bool ov] :: pVw qo (strs op) :: pVw qg (strs gh) :: pRow 4 qt ms.length ct (ms.flatMap EvM.cells) :: pMany (ms.map EvM.row) :: pRow 5 qf fs.length cf (fs.flatMap Fi.cells) :: cs)) := hS
  refine sgo ?_
  refine wcplanb (b := []) (txP b b3 qo co op x p) ⟨.nilIface, none, 0, 0, (none, 0)⟩ hS rfl (fun j oj a a' hj he hd h => ?_) ⟨?_, ?_, ?_, ?_, ?_, ?_, ?_, ?_, ?_, ?_, ?_, ?_, ?_, ?_, ?_, trivial⟩ ?_
  · have hjl : j < 15 := (List.getElem?_eq_some_iff.1 hj).1
    match j, hjl with
    | 0, _ | 1, _ | 2, _ | 3, _ | 4, _ | 5, _ | 6, _ | 7, _ | 8, _ | 11, _ | 12, _ | 14, _ => first | (simp only [txP] at h ⊢; rw [← he]; exact h) | exact h
    | 9, _ => simp only [txP] at h ⊢; rw [← he, ← hd 8 (by cases hj; rfl)]; exact h
    | 10, _ => simp only [txP] at h ⊢; rw [← he, ← hd 9 (by cases hj; rfl)]; exact h
    | 13, _ => simp only [txP] at h ⊢; rw [← he, ← hd 10 (by cases hj; rfl), ← hd 12 (by cases hj; rfl)]; exact h
  · intro a σ' w' rest hσ hdep hS'   -- 0: move; pieces:  ..
    have e0 : σ' 0 = ptrAt (pb b) 0 := (hσ 0 (notDstB rfl)).trans rfl
    exact rule_e [(0, _)] ⟨e0, trivial⟩ ⟨⟨ptrAt (pb b) 0, none, 0, 0, (none, 0)⟩, rfl, rfl, hS'⟩
  · intro a σ' w' rest hσ hdep hS'   -- 1: nilCheck; pieces:  ..
    have f0 := (hdep 0 _ rfl rfl).2
    have e19 := ((hdep 0 _ rfl rfl).1 19 rfl).trans f0
    exact rule_y (y_nilcheckp e19 ⟨_, rfl⟩) ⟨⟨ptrAt (pb b) 0, none, 0, 0, (none, 0)⟩, rfl, rfl, hS'⟩
  · intro a σ' w' rest hσ hdep hS'   -- 2: fieldAddr; pieces:  ..
    have f1 := (hdep 1 _ rfl rfl).2
    have e20 := ((hdep 1 _ rfl rfl).1 20 rfl).trans f1
    exact rule_y (y_field e20 ⟨_, rfl⟩ (by decide)) ⟨⟨ptrAt (pb b) 0, none, 0, 0, (none, 0)⟩, rfl, rfl, hS'⟩
  · intro a σ' w' rest hσ hdep hS'   -- 3: fieldAddr; pieces:  ..
    have f2 := (hdep 2 _ rfl rfl).2
    have e21 := ((hdep 2 _ rfl rfl).1 21 rfl).trans f2
    exact rule_y (y_field e21 ⟨_, rfl⟩ (by decide)) ⟨⟨ptrAt (pb b) 0, none, 0, 0, (none, 0)⟩, rfl, rfl, hS'⟩
  · intro a σ' w' rest hσ hdep hS'   -- 4: load; pieces:  ..
    have f3 := (hdep 3 _ rfl rfl).2
    have e22 := ((hdep 3 _ rfl rfl).1 22 rfl).trans f3
    exact rule_y (y_load e22 (Sep.sgv hS' 1 rfl) rfl) ⟨⟨.slice qo op.length co, none, 0, 0, (none, 0)⟩, rfl, rfl, hS'⟩
  · intro a σ' w' rest hσ hdep hS'   -- 5: move; pieces:  ..
    have e4 : σ' 4 = str x := (hσ 4 (notDstB rfl)).trans rfl
    exact rule_e [(4, _)] ⟨e4, trivial⟩ ⟨⟨str x, none, 0, 0, (none, 0)⟩, rfl, rfl, hS'⟩
  · intro a σ' w' rest hσ hdep hS'   -- 6: call; pieces:  ..
    have f5 := (hdep 5 _ rfl rfl).2
    have e24 := ((hdep 5 _ rfl rfl).1 24 rfl).trans f5
    exact rule_pure (trimBlk_ok x hxl w') (fun w2 hf2 => ⟨⟨str (trbR x), none, 0, 0, (none, 0)⟩, rfl, rfl, hS'.grow hf2⟩) (am2 e24 rfl)
  · intro a σ' w' rest hσ hdep hS'   -- 7: binOp; pieces:  ..
    have f6 := (hdep 6 _ rfl rfl).2
    have e25 := ((hdep 6 _ rfl rfl).1 25 rfl).trans f6
    exact rule_y (by rw [← trb_nil]; exact y_seql (l' := []) e25 rfl) ⟨⟨.bool (isBlank x), none, 0, 0, (none, 0)⟩, rfl, rfl, hS'⟩
  · intro a σ' w' rest hσ hdep hS'   -- 8: call; pieces:  ..
    have f4 := (hdep 4 _ rfl rfl).2
    have e23 := ((hdep 4 _ rfl rfl).1 23 rfl).trans f4
    have f7 := (hdep 7 _ rfl rfl).2
    have e26 := ((hdep 7 _ rfl rfl).1 26 rfl).trans f7
    refine rule_call (vals := [.slice qo op.length co, .bool (isBlank x)]) (hopen w' (hA.frm hS'.frm) (hS'.vw 2 rfl)) (fun v w2 hR => ?_) (am2 e23 e26)
    obtain ⟨q7, c7, rfl, hS2⟩ := hR
    exact ⟨⟨.tuple #[.agg ⟨[int p.ends, .slice q7 p.put.length c7, .bool p.drop]⟩, int p.err], none, 0, 0, (q7, c7)⟩, rfl, rfl, hS'.seq hS2⟩
  · intro a σ' w' rest hσ hdep hS'   -- 9: move; pieces:  ..
    have f8 := (hdep 8 _ rfl rfl).2
    have e27 := ((hdep 8 _ rfl rfl).1 27 rfl).trans f8
    exact rule_e [(27, _)] ⟨e27, trivial⟩ ⟨⟨.tuple #[.agg ⟨[int p.ends, .slice (a 8).x.1 p.put.length (a 8).x.2, .bool p.drop]⟩, int p.err], none, 0, 0, (a 8).x⟩, rfl, ⟨rfl, rfl⟩, hS'⟩
  · intro a σ' w' rest hσ hdep hS'   -- 10: extract; pieces:  ..
    have f9 := (hdep 9 _ rfl rfl).2
    have e18 := ((hdep 9 _ rfl rfl).1 18 rfl).trans f9.1
    exact rule_e [(18, _)] ⟨e18, trivial⟩ ⟨⟨.agg ⟨[int p.ends, .slice (a 9).x.1 p.put.length (a 9).x.2, .bool p.drop]⟩, none, 0, 0, (a 9).x⟩, rfl, ⟨rfl, rfl⟩, hS'⟩
  · intro a σ' w' rest hσ hdep hS'   -- 11: extract; pieces:  ..
    have f9 := (hdep 9 _ rfl rfl).2
    have e18 := ((hdep 9 _ rfl rfl).1 18 rfl).trans f9.1
    exact rule_e [(18, _)] ⟨e18, trivial⟩ ⟨⟨int p.err, none, 0, 0, (none, 0)⟩, rfl, rfl, hS'⟩
  · intro a σ' w' rest hσ hdep hS'   -- 12: alloc; pieces:  ..
    obtain ⟨b, w2, hy, hS2⟩ := y_salloc (P := Tryz.prog) (e := 94) (d := some 5) hS'
    exact rule_y hy ⟨⟨ptrAt (pb b) 0, none, 0, b, (none, 0)⟩, rfl, rfl, hS2⟩
  · intro a σ' w' rest hσ hdep hS'   -- 13: store; pieces: takes 12 ..
    have f12 := (hdep 12 _ rfl rfl).2
    have e5 := ((hdep 12 _ rfl rfl).1 5 rfl).trans f12
    have f10 := (hdep 10 _ rfl rfl).2
    have e28 := ((hdep 10 _ rfl rfl).1 28 rfl).trans f10.1
    obtain ⟨w2, hy, hS2⟩ := y_sst (P := Tryz.prog) (t := 94) (x := .tmp 5) (y := .tmp 28) hS' 0 rfl e5 e28 rfl (Nat.le_of_ble_eq_true rfl) (by simp [Go.Value.cells, Go.Value.oneCell'])
    exact rule_y hy ⟨⟨undef, none, 0, (a 12).b, (a 10).x⟩, rfl, ⟨rfl, rfl⟩, hS2⟩
  · intro a σ' w' rest hσ hdep hS'   -- 14: assign; pieces:  ..
    have f11 := (hdep 11 _ rfl rfl).2
    have e29 := ((hdep 11 _ rfl rfl).1 29 rfl).trans f11
    exact rule_e [(29, _)] ⟨e29, trivial⟩ ⟨⟨int p.err, none, 0, 0, (none, 0)⟩, rfl, rfl, hS'⟩
  · intro a σ' w' hσ hA' hS'
    have h9 := hA' 9 _ rfl
    have h10 := hA' 10 _ rfl
    have h12 := hA' 12 _ rfl
    have h13 := hA' 13 _ rfl
    have h14 := hA' 14 _ rfl
    have hxx : (a 13).x = (a 8).x := h13.2.2.trans (h10.2.2.trans h9.2.2)
    rw [frameOf (σ := σ') [(0, ptrAt (pb b) 0), (3, ptrAt (pb b3) 0), (4, str x), (5, ptrAt (pb (a 13).b) 0), (6, int p.err)] ⟨(hσ 0 (notDst rfl)).trans rfl, (hσ 3 (notDst rfl)).trans rfl, (hσ 4 (notDst rfl)).trans rfl, (h12.1 5 rfl).trans (h12.2.trans (by rw [h13.2.1])), (h14.1 6 rfl).trans h14.2, trivial⟩]
    repeat clear hS
    have hS : Sep w0 w' (pRow 1 (a 8).x.1 p.put.length (a 8).x.2 (strs p.put) :: pOwn (a 13).b [int p.ends, .slice (a 13).x.1 p.put.length (a 13).x.2, .bool p.drop] :: pOwn b3 [int tk, str nm, str tx, .slice tp te.length tc, .bool tf, int ta, int tb, int td] :: pOwn b [.slice qo op.length co, .slice qg gh.length cg, .bool fr, .slice qt ms.length ct, int dp, .slice qf fs.length cf, .bool true, .bool ov] :: pVw qo (strs op) :: pVw qg (strs gh) :: pRow 4 qt ms.length ct (ms.flatMap EvM.cells) :: pMany (ms.map EvM.row) :: pRow 5 qf fs.length cf (fs.flatMap Fi.cells) :: cs) := hS'
    rw [hxx] at hS
    generalize (a 13).b = b4 at *
    generalize (a 8).x = x7 at *
    clear hA' hσ hS' h9 h10 h12 h13 h14 hxx hopen
    obtain ⟨q7, c7⟩ := x7
    replace hS : Sep w0 w' (pOwn b4 [int p.ends, .slice q7 p.put.length c7, .bool p.drop] :: pOwn b3 [int tk, str nm, str tx, .slice tp te.length tc, .bool tf, int ta, int tb, int td] :: pOwn b [.slice qo op.length co, .slice qg gh.length cg, .bool fr, .slice qt ms.length ct, int dp, .slice qf fs.length cf, .bool true, .bool ov] :: pVw qo (strs op) :: pVw qg (strs gh) :: pRow 4 qt ms.length ct (ms.flatMap EvM.cells) :: pMany (ms.map EvM.row) :: pRow 5 qf fs.length cf (fs.flatMap Fi.cells) :: pVw q7 (strs p.put) :: cs) := (hS.rowVw 0 rfl).sel 9 [1, 2, 3, 4, 5, 6, 7, 8, 0]
    obtain ⟨ends, put, drop, err⟩ := p
    dsimp only at hpl hpe hpo hS ⊢
    subst hpo
    refine sgo ?_
    cases drop with
    | true =>
      rw [if_pos rfl]
      refine sgo ?_
      (first | refine fp1 (.inl rfl) rfl rfl ?_ | refine fp2 (.inl rfl) rfl rfl rfl ?_ | refine fp3 (.inl rfl) rfl rfl rfl rfl ?_ | refine fp0 (.inr rfl) rfl ?_ | refine fp0 (.inl rfl) rfl ?_ | refine fp1 (.inr rfl) rfl rfl ?_)
      exact ⟨⟨⟨op, gh, fr⟩, qo, co, qg, cg, ms, qt, ct, fs, qf, cf, dp, ov⟩, ⟨rfl, (List.append_nil _).symm, (List.append_nil _).symm, rfl, rfl, hco, hcg⟩, hS.sel 9 [2, 3, 4, 5, 6, 7]⟩
    | false =>
      rw [if_neg Bool.noConfusion]
      refine sgo ?_
      (first | refine WC_seq ?_ | skip); refine wcdraw ?_
      refine qgo ?_
      refine QL_nil ?_; intro wd hwd
      replace hS := hS.grow hwd
      refine sgo ?_
      by_cases hd : dp < op.length - ends + put.length
      · rw [if_pos hd]
        refine wcyes ?_ (ht := decide_eq_true (by omega))
        replace hS : Sep w0 wd ((BaM.mk ⟨op, gh, fr⟩ qo co qg cg ms qt ct fs qf cf dp ov).plots b (pOwn b4 [int ends, .slice q7 put.length c7, .bool false] :: pOwn b3 [int tk, str nm, str tx, .slice tp te.length tc, .bool tf, int ta, int tb, int td] :: pVw q7 (strs put) :: cs)) := hS.sel 9 [2, 3, 4, 5, 6, 7, 0, 1, 8]
        have ho3 := hS.own 7 rfl
        refine sgo ?_
        refine wlcall (bFind_ok _ b ⟨tk, nm, tx, te, tf, ta, tb, td⟩ tp tc 8 [] hco hcg (by dsimp only; omega) w0 _ _ hS) ?_
        clear ho3
        repeat clear hS
        rintro _ w5 ⟨m4, hto4, hS⟩
        refine sgo ?_
        (first | refine fp1 (.inl rfl) rfl rfl ?_ | refine fp2 (.inl rfl) rfl rfl rfl ?_ | refine fp3 (.inl rfl) rfl rfl rfl rfl ?_ | refine fp0 (.inr rfl) rfl ?_ | refine fp0 (.inl rfl) rfl ?_ | refine fp1 (.inr rfl) rfl rfl ?_)
        exact ⟨m4, hto4, hS.sel 9 [0, 1, 2, 3, 4, 5]⟩
      · rw [if_neg hd]
        refine wcno ?_ (ht := decide_eq_false (by omega))
        replace hS : Sep w0 wd ((BaM.mk ⟨op, gh, fr⟩ qo co qg cg ms qt ct fs qf cf dp ov).plots b (pVw q7 (strs put) :: pOwn b4 [int ends, .slice q7 put.length c7, .bool false] :: pOwn b3 [int tk, str nm, str tx, .slice tp te.length tc, .bool tf, int ta, int tb, int td] :: cs)) := hS.sel 9 [2, 3, 4, 5, 6, 7, 8, 0, 1]
        have ho4 := hS.own 7 rfl
        have ho3 := hS.own 8 rfl
        refine sgo ?_
        refine wlcall (bFollow_ok _ b ⟨tk, nm, tx, te, tf, ta, tb, td⟩ tp tc ⟨ends, put, false, 0⟩ q7 c7 hpe hco hcg (by dsimp only; omega) (by dsimp only; omega) (by dsimp only; omega) w0 _ _ hS) ?_
        clear ho3 ho4
        repeat clear hS
        rintro _ w5 ⟨m4, hto4, hS⟩
        have hlen := hto4.len
        simp only [followE, followF, List.length_append, List.length_map, offN_len _ _ hpe] at hlen
        obtain ⟨⟨op2, gh2, fr2⟩, qo2, co2, qg2, cg2, ms2, qt2, ct2, fs2, qf2, cf2, dp2, ov2⟩ := m4
        obtain ⟨g1, g2, g3, g4, g5, g6, g7⟩ := hto4
        dsimp only at g1 g2 g3 g4 g5 g6 g7 hlen
        replace hS : Sep w0 w5 (pOwn b [.slice qo2 op2.length co2, .slice qg2 gh2.length cg2, .bool fr2, .slice qt2 ms2.length ct2, int dp2, .slice qf2 fs2.length cf2, .bool true, .bool ov2] :: pVw qo2 (strs op2) :: pVw qg2 (strs gh2) :: pRow 4 qt2 ms2.length ct2 (ms2.flatMap EvM.cells) :: pMany (ms2.map EvM.row) :: pRow 5 qf2 fs2.length cf2 (fs2.flatMap Fi.cells) :: cs) := hS.sel 9 [0, 1, 2, 3, 4, 5]
        refine sgo ?_
        refine wlbuild (cells := [int 0, str [], str x, .slice none 0 0]) ?_
        refine sgo ?_
        refine sb1a (vs := EvM.cells (EvM.mk (txE x) none 0)) hS fun b6 w6 hS => ?_
        refine sgo ?_
        refine sapp hS 4 (hS.own 0 rfl).sg (fun q2 c2 w7 hS => ?_) (h1 := ev_one _ _ _)
        rw [evs_flat, show ms2.length + 1 = (ms2 ++ [EvM.mk (txE x) none 0]).length by simp] at hS
        rw [show ms2.length + 1 = (ms2 ++ [EvM.mk (txE x) none 0]).length by simp]
        refine sgo ?_
        refine sst_slice hS 1 fun w8 hS => ?_
        refine sgo ?_
        refine sst_bool hS 1 fun w9 hS => ?_
        refine sgo ?_
        (first | refine fp1 (.inl rfl) rfl rfl ?_ | refine fp2 (.inl rfl) rfl rfl rfl ?_ | refine fp3 (.inl rfl) rfl rfl rfl rfl ?_ | refine fp0 (.inr rfl) rfl ?_ | refine fp0 (.inl rfl) rfl ?_ | refine fp1 (.inr rfl) rfl rfl ?_)
        refine ⟨⟨⟨op2, gh2, false⟩, qo2, co2, qg2, cg2, ms2 ++ [EvM.mk (txE x) none 0], q2, c2, fs2, qf2, cf2, dp2, ov2⟩, ⟨?_, ?_, g3, g4, g5, g6, g7⟩, ?_⟩
        · dsimp only; rw [← g1]
        · dsimp only; rw [evs_snoc, g2, List.append_assoc]
        · have h := (hS.tail.nilRow 2).tell1
          simp only [BaM.plots, BaM.cells]
          rw [List.map_append]
          exact h
end Go.Proofs.YtmnnffenijjpcaaGreatDoor

/-
  Package balance: end.
-/
set_option linter.unusedSimpArgs false
set_option linter.unusedVariables false
set_option linter.unnecessarySimpa false
namespace Go.Proofs.YtmnnffenijjpcaaGreatDoor
open Go Go.Sv Go.RowKit

set_option maxHeartbeats 4000000 in
theorem bEndT_ok (m : BaM) (b : Nat) (t : Tok) (tp : Option Addr) (tc : Nat) (hr : rightR m.s.op = true) (hco : m.s.op.length ≤ m.co) (hcg : m.s.gh.length ≤ m.cg) (hb1 : m.s.op.length ≤ 1024) (hb2 : m.ms.length ≤ 1024) (hb3 : m.fs.length ≤ 1024) (hb4 : m.s.gh.length ≤ 4194304)
    (w0 w : World) (cs : List Plot) (hA : Asc w0) (hS : Sep w0 w (m.plots b cs)) :
    CallsR Tryz.prog 36 #[ptrAt (pb b) 0, .agg ⟨t.cells tp tc⟩] w fun _ w' => BaP m b (endB m.s t).s (endB m.s t).es (endB m.s t).fs w0 cs w' := by
  obtain ⟨⟨op, gh, fr⟩, qo, co, qg, cg, ms, qt, ct, fs, qf, cf, dp, ov⟩ := m
  obtain ⟨tk, nm, tx, te, tf, ta, tb, td⟩ := t
  dsimp only at hr hco hcg hb1 hb2 hb3 hb4
  have hsl := strs_len gh
  refine enter (l := [ptrAt (pb b) 0, .agg ⟨Tok.cells ⟨tk, nm, tx, te, tf, ta, tb, td⟩ tp tc⟩]) Tryz.func36 rfl Tryz.ntmps36 (by kernel_rfl) rfl ?_
  refine WC_seq ?_
  refine WC_region ?_
  refine sbox (v := .agg ⟨Tok.cells ⟨tk, nm, tx, te, tf, ta, tb, td⟩ tp tc⟩) hS fun b3 w1 hS => ?_
  replace hS : Sep w0 w1 (pOwn b3 [int tk, str nm, str tx, .slice tp te.length tc, .bool tf, int ta, int tb, int td] :: pOwn b [.slice qo op.length co, .slice qg gh.length cg, .bool fr, .slice qt ms.length ct, int dp, .slice qf fs.length cf, .bool true, .bool ov] :: pVw qo (strs op) :: pVw qg (strs gh) :: pRow 4 qt ms.length ct (ms.flatMap EvM.cells) :: pMany (ms.map EvM.row) :: pRow 5 qf fs.length cf (fs.flatMap Fi.cells) :: cs) := hS
  refine sgo ?_
  refine wcloop (X := Nat) (fun k => [(0, ptrAt (pb b) 0), (3, ptrAt (pb b3) 0), (4, int ((k : Int) - 1))])
    (fun k wr => k ≤ gh.length ∧ lastK nm gh gh.length = lastK nm gh k ∧ Sep w0 wr (pOwn b3 [int tk, str nm, str tx, .slice tp te.length tc, .bool tf, int ta, int tb, int td] :: pOwn b [.slice qo op.length co, .slice qg gh.length cg, .bool fr, .slice qt ms.length ct, int dp, .slice qf fs.length cf, .bool true, .bool ov] :: pVw qo (strs op) :: pVw qg (strs gh) :: pRow 4 qt ms.length ct (ms.flatMap EvM.cells) :: pMany (ms.map EvM.row) :: pRow 5 qf fs.length cf (fs.flatMap Fi.cells) :: cs))
    (fun k => k) gh.length ⟨rfl, rfl, rfl, trivial⟩ ⟨Nat.le_refl _, rfl, hS⟩ ?_
  repeat clear hS
  rintro k wr ρ ⟨hk, hlk, hS⟩
  unfold endB
  dsimp only
  cases k with
  | succ k =>
    have i1 : (((k + 1 : Nat) : Int) - 1) = (k : Int) := by omega
    rw [i1]
    have hy0 : gh[k]? = some gh[k] := List.getElem?_eq_getElem (by omega)
    have hgd : gh.getD k [] = gh[k] := by rw [List.getD_eq_getElem?_getD, hy0]; rfl
    rw [lastK, hgd] at hlk
    generalize gh[k] = y at *
    have hy := strs_at hy0
    have hqs : ∃ a, qg = some a := (hS.vw 3 rfl).some (by omega)
    refine sgo ?_
    refine wcyes ?_ (ht := decide_eq_true (by omega))
    refine sgo ?_
    (first | refine WC_seq ?_ | skip); refine wcdraw ?_
    refine qgo ?_
    refine QL_nil ?_; intro wd hwd
    replace hS := hS.grow hwd
    refine sgo ?_
    by_cases hyn : y = nm
    · rw [if_pos hyn] at hlk
      rw [hlk]
      refine wcyes ?_ (ht := decide_eq_true hyn)
      refine sgo ?_
      refine sst_slice hS 1 fun w6 hS => ?_
      refine sgo ?_
      (first | refine fp1 (.inl rfl) rfl rfl ?_ | refine fp2 (.inl rfl) rfl rfl rfl ?_ | refine fp3 (.inl rfl) rfl rfl rfl rfl ?_ | refine fp0 (.inr rfl) rfl ?_ | refine fp0 (.inl rfl) rfl ?_ | refine fp1 (.inr rfl) rfl rfl ?_)
      refine ⟨⟨⟨op, gh.take k, fr⟩, qo, co, qg, k, ms, qt, ct, fs, qf, cf, dp, ov⟩, ⟨rfl, (List.append_nil _).symm, (List.append_nil _).symm, rfl, rfl, hco, by dsimp only; rw [List.length_take]; omega⟩, ?_⟩
      have e : (gh.take k).length = k := by rw [List.length_take]; omega
      have ec : (strs gh).take k = strs (gh.take k) := by unfold strs; rw [List.map_take]
      have h := (hS.cutVw 3 rfl k).tail
      simp only [BaM.plots, BaM.cells, e]
      rw [← ec]
      exact h
    · rw [if_neg hyn] at hlk
      refine wcno ?_ (ht := decide_eq_false hyn)
      refine sgo ?_
      exact ⟨k, ⟨rfl, rfl, rfl, trivial⟩, ⟨by omega, hlk, hS⟩, (by (try dsimp only); omega)⟩
  | zero =>
    rw [show lastK nm gh gh.length = none from hlk]
    dsimp only
    have hIo := hS.vw 2 rfl
    refine sgo ?_
    (first | refine WC_seq ?_ | skip); refine wcdraw ?_
    refine qgo ?_
    refine qlcallp (fun w' hw' => nEnd_ok op qo co nm hco (by omega) w' (hA.frm (hS.frm.trans hw')) (hIo.frm hw')) ?_
    refine qgo ?_
    refine QL_nil ?_; intro wd hwd
    replace hS := hS.grow hwd
    have hle := endR_le op nm
    generalize endR op nm = e at *
    obtain ⟨e, e2⟩ := e
    dsimp only at hle ⊢
    refine sgo ?_
    by_cases he : e = 0
    · rw [if_pos he]
      refine wcyes ?_ (ht := decide_eq_true (by omega))
      replace hS : Sep w0 wd ((BaM.mk ⟨op, gh, fr⟩ qo co qg cg ms qt ct fs qf cf dp ov).plots b (pOwn b3 [int tk, str nm, str tx, .slice tp te.length tc, .bool tf, int ta, int tb, int td] :: cs)) := hS.sel 7 [1, 2, 3, 4, 5, 6, 0]
      have ho3 := hS.own 6 rfl
      refine sgo ?_
      refine wlcall (bFind_ok _ b ⟨tk, nm, tx, te, tf, ta, tb, td⟩ tp tc 7 nm hco hcg (by dsimp only; omega) w0 _ _ hS) ?_
      clear ho3
      repeat clear hS
      rintro _ w5 ⟨m4, hto4, hS⟩
      refine sgo ?_
      (first | refine fp1 (.inl rfl) rfl rfl ?_ | refine fp2 (.inl rfl) rfl rfl rfl ?_ | refine fp3 (.inl rfl) rfl rfl rfl rfl ?_ | refine fp0 (.inr rfl) rfl ?_ | refine fp0 (.inl rfl) rfl ?_ | refine fp1 (.inr rfl) rfl rfl ?_)
      exact ⟨m4, hto4, hS.sel 7 [0, 1, 2, 3, 4, 5]⟩
    · rw [if_neg he]
      refine wcno ?_ (ht := decide_eq_false (by omega))
      replace hS : Sep w0 wd ((BaM.mk ⟨op, gh, fr⟩ qo co qg cg ms qt ct fs qf cf dp ov).plots b (pOwn b3 [int tk, str nm, str tx, .slice tp te.length tc, .bool tf, int ta, int tb, int td] :: cs)) := hS.sel 7 [1, 2, 3, 4, 5, 6, 0]
      refine sgo ?_
      refine wlcall (bPop_ok _ b e hle hco hcg (by dsimp only; omega) (by dsimp only; omega) w0 _ _ hS) ?_
      repeat clear hS
      rintro _ w5 ⟨m4, hto4, hS⟩
      refine sgo ?_
      (first | refine fp1 (.inl rfl) rfl rfl ?_ | refine fp2 (.inl rfl) rfl rfl rfl ?_ | refine fp3 (.inl rfl) rfl rfl rfl rfl ?_ | refine fp0 (.inr rfl) rfl ?_ | refine fp0 (.inl rfl) rfl ?_ | refine fp1 (.inr rfl) rfl rfl ?_)
      exact ⟨m4, hto4, hS.sel 7 [0, 1, 2, 3, 4, 5]⟩
end Go.Proofs.YtmnnffenijjpcaaGreatDoor

/-
  Package balance: Take, End, Open, Ghosts.
-/
set_option linter.unusedSimpArgs false
set_option linter.unusedVariables false
set_option linter.unnecessarySimpa false
namespace Go.Proofs.YtmnnffenijjpcaaGreatDoor
open Go Go.Sv Go.RowKit

/-- a balancer ahead of a call: what it told before is not its own any more -/
def kP (b : Nat) (s : BaS) (qo : Option Addr) (co : Nat) (qg : Option Addr) (cg dp : Nat) (ov : Bool) (vt vf : Value) (cs : List Plot) : List Plot :=
  pOwn b [.slice qo s.op.length co, .slice qg s.gh.length cg, .bool s.fr, vt, int dp, vf, .bool true, .bool ov] :: pVw qo (strs s.op) :: pVw qg (strs s.gh) :: cs
theorem ready_kp {b : Nat} {s : BaS} {qo qg : Option Addr} {co cg dp : Nat} {ov : Bool} {vt vf : Value} {w0 w : World} {cs : List Plot} (hS : Sep w0 w (kP b s qo co qg cg dp ov vt vf cs)) : PureC Tryz.prog 33 #[ptrAt (pb b) 0] w (int (if ov then 3 else 0)) :=
  bReady_ok b _ _ _ _ _ _ true ov w (hS.own 0 rfl)
/-- what Take gives -/
def tkP (b dp : Nat) (s : BaS) (o : OutB) (ov : Bool) (w0 : World) (cs : List Plot) (m' : BaM) (w' : World) : Prop :=
  m'.s = o.s ∧ evs m'.ms = o.es ∧ m'.fs = o.fs ∧ m'.dp = dp ∧ m'.ov = ov ∧ m'.s.op.length ≤ m'.co ∧ m'.s.gh.length ≤ m'.cg ∧ Sep w0 w' (m'.plots b cs)
set_option maxHeartbeats 8000000 in
theorem bTake_ok (b : Nat) (s : BaS) (qo : Option Addr) (co : Nat) (qg : Option Addr) (cg dp : Nat) (vt vf : Value) (t : Tok) (tp : Option Addr) (tc : Nat) (hm : mayR t = true) (hs : t.small) (hr : rightR s.op = true) (hco : s.op.length ≤ co) (hcg : s.gh.length ≤ cg) (hb1 : s.op.length ≤ 1024) (hb4 : s.gh.length ≤ 4194304) (hdp : dp ≤ 1024)
    (w0 w : World) (cs : List Plot) (hA : Asc w0) (hi : Im [] w0 tp (t.attrs.flatMap At.cells)) (hS : Sep w0 w (kP b s qo co qg cg dp false vt vf cs)) :
    CallsR Tryz.prog 15 #[ptrAt (pb b) 0, .agg ⟨t.cells tp tc⟩] w fun v w' => ∃ m' : BaM, v = .tuple #[.slice m'.qt m'.ms.length m'.ct, .slice m'.qf m'.fs.length m'.cf, int 0] ∧ tkP b dp s (takeB dp s t) false w0 cs m' w' := by
  have hck := fun w' hf => check_ok t tp tc hs w' (hi.frm hf)
  rw [hm, if_pos rfl] at hck
  have hrd := fun (w' : World) (h : Sep w0 w' (kP b s qo co qg cg dp false vt vf cs)) => ready_kp h
  have hstart := fun (w' : World) cs' h => bStart_ok ⟨s, qo, co, qg, cg, [], none, 0, [], none, 0, dp, false⟩ b t tp tc hr hco hcg hb1 hb4 (Nat.zero_le _) (Nat.zero_le _) hdp hs.attrs w0 w' cs' hA hi h
  have htext := fun (htx : t.text ≠ []) (w' : World) cs' h => bText_ok ⟨s, qo, co, qg, cg, [], none, 0, [], none, 0, dp, false⟩ b t tp tc hr hco hcg hb1 (Nat.zero_le _) (Nat.zero_le _) hdp htx hs.text w0 w' cs' hA h
  have hend := fun (w' : World) cs' h => bEndT_ok ⟨s, qo, co, qg, cg, [], none, 0, [], none, 0, dp, false⟩ b t tp tc hr hco hcg hb1 (Nat.zero_le _) (Nat.zero_le _) hb4 w0 w' cs' hA h
  have htxt : t.kind = 0 → t.text ≠ [] := by
    intro h0
    unfold mayR at hm
    rw [if_pos h0] at hm
    simp only [Bool.and_eq_true, Bool.not_eq_true', decide_eq_false_iff_not] at hm
    exact hm.2.1
  unfold takeB
  obtain ⟨tk, nm, tx, te, tf, ta, tb, td⟩ := t
  obtain ⟨op, gh, fr⟩ := s
  dsimp only at hstart htext hend htxt hS hrd hck ⊢
  clear hs hm hi
  refine enter (l := [ptrAt (pb b) 0, .agg ⟨Tok.cells ⟨tk, nm, tx, te, tf, ta, tb, td⟩ tp tc⟩]) Tryz.func15 rfl Tryz.ntmps15 (by kernel_rfl) rfl ?_
  refine WC_seq ?_
  refine WC_region ?_
  refine sbox (v := .agg ⟨Tok.cells ⟨tk, nm, tx, te, tf, ta, tb, td⟩ tp tc⟩) hS fun b3 w1 hS => ?_
  replace hS : Sep w0 w1 (kP b ⟨op, gh, fr⟩ qo co qg cg dp false vt vf (pOwn b3 [int tk, str nm, str tx, .slice tp te.length tc, .bool tf, int ta, int tb, int td] :: cs)) := hS.sel 4 [1, 2, 3, 0]
  refine sgo ?_
  refine wlpure (ready_kp hS) fun w2 hf2 => ?_
  replace hS := hS.grow hf2
  have ho3 := hS.own 3 rfl
  refine sgo ?_
  refine wlpure (hck _ hS.frm) fun w3 hf3 => ?_
  replace hS := hS.grow hf3
  clear ho3
  replace hS : Sep w0 w3 (pOwn b [.slice qo op.length co, .slice qg gh.length cg, .bool fr, vt, int dp, vf, .bool true, .bool false] :: pVw qo (strs op) :: pVw qg (strs gh) :: pOwn b3 [int tk, str nm, str tx, .slice tp te.length tc, .bool tf, int ta, int tb, int td] :: cs) := hS
  refine sgo ?_
  refine sst_slice hS 0 fun w4 hS => ?_
  refine sgo ?_
  refine sst_slice hS 0 fun w5 hS => ?_
  replace hS : Sep w0 w5 ((BaM.mk ⟨op, gh, fr⟩ qo co qg cg [] none 0 [] none 0 dp false).plots b (pOwn b3 [int tk, str nm, str tx, .slice tp te.length tc, .bool tf, int ta, int tb, int td] :: cs)) := by
    have h2 := ((hS.nilRow 5).zero).nilRow 4
    exact h2.sel 7 [3, 4, 5, 0, 1, 2, 6]
  have ho3 := hS.own 6 rfl
  refine sgo ?_
  refine wcutj (X := Unit) (fun _ => [(0, ptrAt (pb b) 0)]) (fun _ wr => BaP ⟨⟨op, gh, fr⟩, qo, co, qg, cg, [], none, 0, [], none, 0, dp, false⟩ b (if tk = 1 then startB dp ⟨op, gh, fr⟩ ⟨tk, nm, tx, te, tf, ta, tb, td⟩ else if tk = 0 then textB dp ⟨op, gh, fr⟩ ⟨tk, nm, tx, te, tf, ta, tb, td⟩ else if tk = 2 then endB ⟨op, gh, fr⟩ ⟨tk, nm, tx, te, tf, ta, tb, td⟩ else ⟨⟨op, gh, fr⟩, [], []⟩).s
    (if tk = 1 then startB dp ⟨op, gh, fr⟩ ⟨tk, nm, tx, te, tf, ta, tb, td⟩ else if tk = 0 then textB dp ⟨op, gh, fr⟩ ⟨tk, nm, tx, te, tf, ta, tb, td⟩ else if tk = 2 then endB ⟨op, gh, fr⟩ ⟨tk, nm, tx, te, tf, ta, tb, td⟩ else ⟨⟨op, gh, fr⟩, [], []⟩).es
    (if tk = 1 then startB dp ⟨op, gh, fr⟩ ⟨tk, nm, tx, te, tf, ta, tb, td⟩ else if tk = 0 then textB dp ⟨op, gh, fr⟩ ⟨tk, nm, tx, te, tf, ta, tb, td⟩ else if tk = 2 then endB ⟨op, gh, fr⟩ ⟨tk, nm, tx, te, tf, ta, tb, td⟩ else ⟨⟨op, gh, fr⟩, [], []⟩).fs w0 (pOwn b3 [int tk, str nm, str tx, .slice tp te.length tc, .bool tf, int ta, int tb, int td] :: cs) wr) ?_ ?_
  · by_cases h1 : tk = 1
    · rw [if_pos h1]
      refine wcyes ?_ (ht := decide_eq_true h1)
      refine sgo ?_
      refine wlcall (hstart _ _ hS) ?_
      rintro _ w6 hP
      refine sgo ?_
      exact ⟨(), ⟨rfl, trivial⟩, hP⟩
    rw [if_neg h1]
    refine wcno ?_ (ht := decide_eq_false h1)
    refine sgo ?_
    by_cases h2 : tk = 0
    · rw [if_pos h2]
      refine wcyes ?_ (ht := decide_eq_true h2)
      refine sgo ?_
      refine wlcall (htext (htxt h2) _ _ hS) ?_
      rintro _ w6 hP
      refine sgo ?_
      exact ⟨(), ⟨rfl, trivial⟩, hP⟩
    rw [if_neg h2]
    refine wcno ?_ (ht := decide_eq_false h2)
    refine sgo ?_
    by_cases h3 : tk = 2
    · rw [if_pos h3]
      refine wcyes ?_ (ht := decide_eq_true h3)
      refine sgo ?_
      refine wlcall (hend _ _ hS) ?_
      rintro _ w6 hP
      refine sgo ?_
      exact ⟨(), ⟨rfl, trivial⟩, hP⟩
    rw [if_neg h3]
    refine wcno ?_ (ht := decide_eq_false h3)
    refine sgo ?_
    exact ⟨(), ⟨rfl, trivial⟩, _, ⟨rfl, rfl, rfl, rfl, rfl, hco, hcg⟩, hS⟩
  · repeat clear hS
    clear hstart htext hend htxt hrd hck ho3
    generalize (if tk = 1 then startB dp ⟨op, gh, fr⟩ ⟨tk, nm, tx, te, tf, ta, tb, td⟩ else if tk = 0 then textB dp ⟨op, gh, fr⟩ ⟨tk, nm, tx, te, tf, ta, tb, td⟩ else if tk = 2 then endB ⟨op, gh, fr⟩ ⟨tk, nm, tx, te, tf, ta, tb, td⟩ else ⟨⟨op, gh, fr⟩, [], []⟩) = o
    rintro _ w6 ρ ⟨⟨⟨op2, gh2, fr2⟩, qo2, co2, qg2, cg2, ms2, qt2, ct2, fs2, qf2, cf2, dp2, ov2⟩, ⟨g1, g2, g3, g4, g5, g6, g7⟩, hS⟩
    dsimp only at g1 g2 g3 g4 g5 g6 g7
    replace hS : Sep w0 w6 (pOwn b [.slice qo2 op2.length co2, .slice qg2 gh2.length cg2, .bool fr2, .slice qt2 ms2.length ct2, int dp2, .slice qf2 fs2.length cf2, .bool true, .bool ov2] :: pVw qo2 (strs op2) :: pVw qg2 (strs gh2) :: pRow 4 qt2 ms2.length ct2 (ms2.flatMap EvM.cells) :: pMany (ms2.map EvM.row) :: pRow 5 qf2 fs2.length cf2 (fs2.flatMap Fi.cells) :: cs) := hS.sel 7 [0, 1, 2, 3, 4, 5]
    refine sgo ?_
    (first | refine WC_seq ?_ | skip); refine wcdraw ?_
    refine qgo ?_
    refine QL_nil ?_; intro wd hwd
    replace hS := hS.grow hwd
    refine sgo ?_
    (first | refine fp1 (.inl rfl) rfl rfl ?_ | refine fp2 (.inl rfl) rfl rfl rfl ?_ | refine fp3 (.inl rfl) rfl rfl rfl rfl ?_ | refine fp0 (.inr rfl) rfl ?_ | refine fp0 (.inl rfl) rfl ?_ | refine fp1 (.inr rfl) rfl rfl ?_)
    exact ⟨⟨⟨op2, gh2, fr2⟩, qo2, co2, qg2, cg2, ms2, qt2, ct2, fs2, qf2, cf2, dp2, ov2⟩, rfl, g1, g2, g3, g4, g5, g6, g7, hS⟩
end Go.Proofs.YtmnnffenijjpcaaGreatDoor

/-
  Package balance: End, Open, Ghosts.
-/
set_option linter.unusedSimpArgs false
set_option linter.unusedVariables false
set_option linter.unnecessarySimpa false
namespace Go.Proofs.YtmnnffenijjpcaaGreatDoor
open Go Go.Sv Go.RowKit

set_option maxHeartbeats 4000000 in
theorem bEnd_ok (b : Nat) (s : BaS) (qo : Option Addr) (co : Nat) (qg : Option Addr) (cg dp : Nat) (vt : Value) (fs : List Fi) (qf : Option Addr) (cf : Nat) (hco : s.op.length ≤ co) (hcg : s.gh.length ≤ cg) (hb1 : s.op.length ≤ 1024)
    (w0 w : World) (cs : List Plot) (hS : Sep w0 w (kP b s qo co qg cg dp false vt (.slice qf fs.length cf) (pRow 5 qf fs.length cf (fs.flatMap Fi.cells) :: cs))) :
    CallsR Tryz.prog 20 #[ptrAt (pb b) 0] w fun v w' => ∃ m' : BaM, v = .tuple #[.slice m'.qt m'.ms.length m'.ct, int 0] ∧ tkP b dp s ⟨popB s s.op.length, (offN s.op s.op.length).map closeE, fs⟩ true w0 cs m' w' := by
  have hrd := ready_kp hS
  obtain ⟨op, gh, fr⟩ := s
  dsimp only at hco hcg hb1
  refine enter (l := [ptrAt (pb b) 0]) Tryz.func20 rfl Tryz.ntmps20 (by kernel_rfl) rfl ?_
  refine sgo ?_
  refine wlpure hrd fun w2 hf2 => ?_
  replace hS := hS.grow hf2
  clear hrd
  replace hS : Sep w0 w2 (pOwn b [.slice qo op.length co, .slice qg gh.length cg, .bool fr, vt, int dp, .slice qf fs.length cf, .bool true, .bool false] :: pVw qo (strs op) :: pVw qg (strs gh) :: pRow 5 qf fs.length cf (fs.flatMap Fi.cells) :: cs) := hS
  refine sgo ?_
  refine sst_slice hS 0 fun w4 hS => ?_
  replace hS : Sep w0 w4 ((BaM.mk ⟨op, gh, fr⟩ qo co qg cg [] none 0 fs qf cf dp false).plots b cs) := by
    have h2 := (hS.zero).nilRow 4
    exact h2.sel 6 [2, 3, 4, 0, 1, 5]
  refine sgo ?_
  refine wcdrawt 9 ?_
  refine qgo ?_
  refine QL_nil ?_; intro wd hwd
  replace hS := hS.grow hwd
  refine wlcall (bPop_ok _ b op.length (Nat.le_refl _) hco hcg (by dsimp only; omega) (Nat.zero_le _) w0 _ _ hS) ?_
  repeat clear hS
  rintro _ w6 ⟨⟨⟨op2, gh2, fr2⟩, qo2, co2, qg2, cg2, ms2, qt2, ct2, fs2, qf2, cf2, dp2, ov2⟩, ⟨g1, g2, g3, g4, g5, g6, g7⟩, hS⟩
  dsimp only at g1 g2 g3 g4 g5 g6 g7
  replace hS : Sep w0 w6 (pOwn b [.slice qo2 op2.length co2, .slice qg2 gh2.length cg2, .bool fr2, .slice qt2 ms2.length ct2, int dp2, .slice qf2 fs2.length cf2, .bool true, .bool ov2] :: pVw qo2 (strs op2) :: pVw qg2 (strs gh2) :: pRow 4 qt2 ms2.length ct2 (ms2.flatMap EvM.cells) :: pMany (ms2.map EvM.row) :: pRow 5 qf2 fs2.length cf2 (fs2.flatMap Fi.cells) :: cs) := hS
  refine sgo ?_
  refine sst_bool hS 0 fun w7 hS => ?_
  refine sgo ?_
  (first | refine fp1 (.inl rfl) rfl rfl ?_ | refine fp2 (.inl rfl) rfl rfl rfl ?_ | refine fp3 (.inl rfl) rfl rfl rfl rfl ?_ | refine fp0 (.inr rfl) rfl ?_ | refine fp0 (.inl rfl) rfl ?_ | refine fp1 (.inr rfl) rfl rfl ?_)
  exact ⟨⟨⟨op2, gh2, fr2⟩, qo2, co2, qg2, cg2, ms2, qt2, ct2, fs2, qf2, cf2, dp2, true⟩, rfl, g1, g2, by rw [g3]; simp, g4, rfl, g6, g7, hS⟩
end Go.Proofs.YtmnnffenijjpcaaGreatDoor

/-
  Package balance: All.
-/
set_option linter.unusedSimpArgs false
set_option linter.unusedVariables false
set_option linter.unnecessarySimpa false
namespace Go.Proofs.YtmnnffenijjpcaaGreatDoor
open Go Go.Sv Go.RowKit

theorem run_snoc (dp : Nat) (s : BaS) (l : List Tok) (t : Tok) : runB dp s (l ++ [t]) = ⟨(takeB dp (runB dp s l).s t).s, (runB dp s l).es ++ (takeB dp (runB dp s l).s t).es, (runB dp s l).fs ++ (takeB dp (runB dp s l).s t).fs⟩ := by
  rw [runB_app]; simp [runB]
theorem popB_gh (s : BaS) (k : Nat) : (popB s k).gh.length ≤ s.gh.length := by
  unfold popB; split
  · exact Nat.le_refl _
  · exact Nat.zero_le _
theorem follow_gh (s : BaS) (p : PlanR) : (followB s p).gh.length ≤ s.gh.length := by
  unfold followB; rw [(pushes_op _ _).2]; exact popB_gh _ _
theorem take_fs (dp : Nat) (s : BaS) (t : Tok) : (takeB dp s t).fs.length ≤ 7 ∧ (takeB dp s t).s.gh.length ≤ s.gh.length + 1 := by
  unfold takeB
  split
  · unfold startB
    have h1 := follow_gh s (planR s.op (askR s.op t.name))
    have h3 : (planR s.op (askR s.op t.name)).put.length ≤ 6 := ask_put_len s.op t.name
    generalize planR s.op (askR s.op t.name) = p at *
    unfold followF
    repeat' split
    all_goals simp only [List.length_nil, List.length_append, List.length_singleton, List.length_map, pushB]
    all_goals omega
  split
  · unfold textB
    have h0 := nText_bnd s.op (isBlank (headB s t))
    have h1 := follow_gh s (nTextR s.op (isBlank (headB s t)))
    generalize nTextR s.op (isBlank (headB s t)) = p at *
    unfold followF
    repeat' split
    all_goals simp only [List.length_nil, List.length_singleton, List.length_map]
    all_goals omega
  split
  · unfold endB
    have h1 := popB_gh s (endR s.op t.name).1
    split
    · simp only [List.length_nil, List.length_take]; omega
    · split
      · simp
      · simp only [List.length_nil]; omega
  · simp
theorem run_fs (dp : Nat) : ∀ (l : List Tok) (s : BaS), (runB dp s l).fs.length ≤ 7 * l.length ∧ (runB dp s l).s.gh.length ≤ s.gh.length + l.length
  | [], s => by simp [runB]
  | t :: l, s => by
    have h1 := take_fs dp s t
    have h2 := run_fs dp l (takeB dp s t).s
    simp only [runB, List.length_append, List.length_cons]
    omega
theorem evm_one (ns : List EvM) : ∀ u ∈ ns.flatMap EvM.cells, u.oneCell' = true := by
  intro u hu
  obtain ⟨x, _, hx⟩ := List.mem_flatMap.1 hu
  exact ev_one _ _ _ u hx
theorem fis_one (ns : List Fi) : ∀ u ∈ ns.flatMap Fi.cells, u.oneCell' = true := by
  intro u hu
  obtain ⟨x, _, hx⟩ := List.mem_flatMap.1 hu
  exact fi_one _ u hx
def toks (ms : List TokM) : List Tok := ms.map TokM.t
theorem toks_len (ms : List TokM) : (toks ms).length = ms.length := by simp [toks]
set_option maxHeartbeats 2000000 in
theorem bAllBad_ok (d : Int) (h : d < 1 ∨ 512 < d) (x : Value) (w : World) : PureC Tryz.prog 6 #[int d, x] w (.tuple #[.slice none 0 0, .slice none 0 0, int 1]) := by
  have hF := Frm.refl w
  refine enter (l := [int d, x]) Tryz.func6 rfl Tryz.ntmps6 (by kernel_rfl) rfl ?_
  refine sgo ?_
  refine wlpure (bNewBad_ok d h _) fun w2 hf2 => ?_
  refine sgo ?_
  (first | refine fp1 (.inl rfl) rfl rfl ?_ | refine fp2 (.inl rfl) rfl rfl rfl ?_ | refine fp3 (.inl rfl) rfl rfl rfl rfl ?_ | refine fp0 (.inr rfl) rfl ?_ | refine fp0 (.inl rfl) rfl ?_ | refine fp1 (.inr rfl) rfl rfl ?_); refine ⟨?_, by (first | exact Frm.refl _ | assumption | exact Go.Sv.Sep.frm (by assumption) | (refine Frm.trans ?_ (by assumption); first | exact Frm.refl _ | assumption))⟩; (try simp only [realB, rv_true, Nat.reduceBEq, cond_true, cond_false, entG, real_lif, updGL])
/-- what All gives -/
def alP (k : Nat) (l : List Tok) (w0 : World) (cs : List Plot) (v : Value) (w' : World) : Prop :=
  ∃ (es : List EvM) (q : Option Addr) (c : Nat) (fq : Option Addr) (fc : Nat), v = .tuple #[.slice q es.length c, .slice fq (allF k l).length fc, int 0] ∧ evs es = allE k l ∧ Sep w0 w' (pRow 4 q es.length c (es.flatMap EvM.cells) :: pMany (es.map EvM.row) :: pRow 5 fq (allF k l).length fc ((allF k l).flatMap Fi.cells) :: cs)
set_option maxHeartbeats 8000000 in
theorem bAll_ok (k : Nat) (hk : 1 ≤ k ∧ k ≤ 512) (ms : List TokM) (p : Option Addr) (c : Nat) (hn : ms.length ≤ 2097152) (hs : ∀ m ∈ ms, m.t.small) (w0 w : World) (cs : List Plot) (hA : Asc w0) (hT : Toks w0 p ms) (hS : Sep w0 w cs) :
    CallsR Tryz.prog 6 #[int k, .slice p ms.length c] w fun v w' => ((toks ms).all mayR = false → v = .tuple #[.slice none 0 0, .slice none 0 0, int 70] ∧ Sep w0 w' cs) ∧ ((toks ms).all mayR = true → alP k (toks ms) w0 cs v w') := by
  have hfl := fm_len TokM.len ms
  refine enter (l := [int k, .slice p ms.length c]) Tryz.func6 rfl Tryz.ntmps6 (by kernel_rfl) rfl ?_
  refine sgo ?_
  refine wlcall (bNew_ok k hk w0 _ _ hS) ?_
  repeat clear hS
  rintro _ w1 ⟨b, rfl, hS⟩
  refine sgo ?_
  refine wcutj (X := Unit) (fun _ => [(0, int k), (1, .slice p ms.length c), (7, ptrAt (pb b) 0)]) (fun _ wr => (toks ms).all mayR = true ∧ Sep w0 wr ((newM k).plots b cs)) ?_ ?_
  · refine wcloop (X := Nat) (fun i => [(0, int k), (1, .slice p ms.length c), (7, ptrAt (pb b) 0), (29, .slice p ms.length c), (30, int ms.length), (31, int i)])
      (fun i wr => i ≤ ms.length ∧ ((toks ms).take i).all mayR = true ∧ Sep w0 wr ((newM k).plots b cs)) (fun i => ms.length - i) 0 ⟨rfl, rfl, rfl, rfl, rfl, rfl, trivial⟩ ⟨Nat.zero_le _, rfl, hS⟩ ?_
    repeat clear hS
    rintro i wr ρ ⟨hil, hal, hS⟩
    have hIm := hT.im.frm hS.frm
    refine sgo ?_
    (show WC _ _ _ _ _ _ _; first | refine WC_dec rfl (fun hc => ?_) (fun hc => ?_) | refine WC_cond rfl (fun hc => ?_) (fun hc => ?_))
    · have hlt : i < ms.length := by omega
      have hx : ms[i]? = some ms[i] := List.getElem?_eq_getElem hlt
      have hmem : ms[i] ∈ ms := List.getElem_mem hlt
      have hseg := fm_seg TokM.len ms hx
      have hat := hT.each _ hmem
      have hsm := hs _ hmem
      have hps : ∃ a, p = some a := hIm.some (by omega)
      have htk : (toks ms).take (i + 1) = (toks ms).take i ++ [ms[i].t] := by
        unfold toks; rw [List.take_add_one, List.getElem?_map, hx]; rfl
      have hmm : ms[i].t ∈ toks ms := List.mem_map_of_mem hmem
      generalize ms[i] = m at *
      clear hc
      obtain ⟨t, mp, mc⟩ := m
      dsimp only at hat hsm htk hmm
      have hck := fun w' hf => check_ok t mp mc hsm w' (hat.frm hf)
      cases hmy : mayR t with
      | false =>
        rw [hmy, if_neg Bool.noConfusion] at hck
        have hall : (toks ms).all mayR = false := by
          rw [Bool.eq_false_iff]; intro h
          rw [List.all_eq_true.1 h _ hmm] at hmy; cases hmy
        obtain ⟨tk, nm, tx, te, tf, ta, tb, td⟩ := t
        refine sgo ?_
        rw [hseg]
        refine salloc hS fun b5 w5 hS => ?_
        refine sgo ?_
        refine ssta (vs := [int tk, str nm, str tx, .slice mp te.length mc, .bool tf, int ta, int tb, int td]) hS 0 fun w6 hS => ?_
        refine sgo ?_
        refine wlpure (hck _ hS.frm) fun w7 hf7 => ?_
        replace hS := hS.grow hf7
        refine sgo ?_
        (first | refine fp1 (.inl rfl) rfl rfl ?_ | refine fp2 (.inl rfl) rfl rfl rfl ?_ | refine fp3 (.inl rfl) rfl rfl rfl rfl ?_ | refine fp0 (.inr rfl) rfl ?_ | refine fp0 (.inl rfl) rfl ?_ | refine fp1 (.inr rfl) rfl rfl ?_)
        exact ⟨fun _ => ⟨rfl, hS.sel 7 []⟩, fun h => by rw [hall] at h; cases h⟩
      | true =>
        rw [hmy, if_pos rfl] at hck
        obtain ⟨tk, nm, tx, te, tf, ta, tb, td⟩ := t
        refine sgo ?_
        rw [hseg]
        refine salloc hS fun b5 w5 hS => ?_
        refine sgo ?_
        refine ssta (vs := [int tk, str nm, str tx, .slice mp te.length mc, .bool tf, int ta, int tb, int td]) hS 0 fun w6 hS => ?_
        refine sgo ?_
        refine wlpure (hck _ hS.frm) fun w7 hf7 => ?_
        replace hS := hS.grow hf7
        refine sgo ?_
        refine ⟨i + 1, ⟨rfl, rfl, rfl, rfl, rfl, rfl, trivial⟩, ⟨hlt, ?_, hS.tail⟩, (by (try dsimp only); omega)⟩
        rw [htk, List.all_append, hal]; simp [hmy]
    · obtain rfl : i = ms.length := by omega
      refine sgo ?_
      rw [List.take_of_length_le (by rw [toks_len]; exact Nat.le_refl _)] at hal
      exact ⟨(), ⟨rfl, rfl, rfl, trivial⟩, hal, hS⟩
  repeat clear hS
  rintro _ w2 ρ ⟨hal, hS⟩
  have hmay : ∀ t ∈ toks ms, mayR t = true ∧ t.small := by
    intro t ht
    refine ⟨List.all_eq_true.1 hal t ht, ?_⟩
    obtain ⟨m, h1, rfl⟩ := List.mem_map.1 ht
    exact hs m h1
  have hrun : ∀ i, PosR k ((runB k ba0 ((toks ms).take i)).s.op, (runB k ba0 ((toks ms).take i)).s.fr) := fun i =>
    (run_good (depth := k) _ ba0 (fun t ht => hmay t (List.mem_of_mem_take ht)) (pos0 k)).right (pos0 k)
  have hlen : ∀ i, i ≤ ms.length → (runB k ba0 ((toks ms).take i)).es.length ≤ 14 * i ∧ (runB k ba0 ((toks ms).take i)).fs.length ≤ 7 * i ∧ (runB k ba0 ((toks ms).take i)).s.gh.length ≤ i := by
    intro i hi
    have h1 := run_len k ((toks ms).take i) ba0
    have h2 := run_fs k ((toks ms).take i) ba0
    rw [List.length_take, toks_len, Nat.min_eq_left hi] at h1 h2
    have h3 : ba0.op.length = 0 := rfl
    have h4 : ba0.gh.length = 0 := rfl
    omega
  refine sgo ?_
  refine wcloop (X := Nat × List EvM × Option Addr × Nat × Option Addr × Nat) (fun x => [(7, ptrAt (pb b) 0), (12, .slice x.2.2.1 x.2.1.length x.2.2.2.1), (13, .slice x.2.2.2.2.1 (runB k ba0 ((toks ms).take x.1)).fs.length x.2.2.2.2.2), (41, .slice p ms.length c), (42, int ms.length), (43, int x.1)])
    (fun x wr => x.1 ≤ ms.length ∧ evs x.2.1 = (runB k ba0 ((toks ms).take x.1)).es ∧ ∃ (qo : Option Addr) (co : Nat) (qg : Option Addr) (cg : Nat) (vt : Value) (fl : List Fi) (qf : Option Addr) (cf : Nat), (runB k ba0 ((toks ms).take x.1)).s.op.length ≤ co ∧ (runB k ba0 ((toks ms).take x.1)).s.gh.length ≤ cg ∧
      Sep w0 wr (kP b (runB k ba0 ((toks ms).take x.1)).s qo co qg cg k false vt (.slice qf fl.length cf) (pRow 5 qf fl.length cf (fl.flatMap Fi.cells) :: pRow 4 x.2.2.1 x.2.1.length x.2.2.2.1 (x.2.1.flatMap EvM.cells) :: pMany (x.2.1.map EvM.row) :: pRow 5 x.2.2.2.2.1 (runB k ba0 ((toks ms).take x.1)).fs.length x.2.2.2.2.2 ((runB k ba0 ((toks ms).take x.1)).fs.flatMap Fi.cells) :: cs)))
    (fun x => ms.length - x.1) (0, [], none, 0, none, 0) ⟨rfl, rfl, rfl, rfl, rfl, rfl, trivial⟩ ⟨Nat.zero_le _, rfl, none, 0, none, 0, .slice none 0 0, [], none, 0, Nat.le_refl _, Nat.le_refl _, ?_⟩ ?_
  · have h2 := (((hS.sel 6 [0, 1, 2, 5]).nilRow 5).zero).nilRow 4
    exact h2.sel 7 [3, 4, 5, 6, 0, 1, 2]
  repeat clear hS
  rintro ⟨i, os, q, c1, fq, fc⟩ wr ρ ⟨hil, hos, qo, co, qg, cg, vt, fl, qf, cf, hco, hcg, hS⟩
  dsimp only at *
  have hri := hrun i
  have hli := hlen i hil
  have hol : os.length = (runB k ba0 ((toks ms).take i)).es.length := by rw [← hos, evs_len]
  have hIm := hT.im.frm hS.frm
  refine sgo ?_
  (show WC _ _ _ _ _ _ _; first | refine WC_dec rfl (fun hc => ?_) (fun hc => ?_) | refine WC_cond rfl (fun hc => ?_) (fun hc => ?_))
  · have hlt : i < ms.length := by omega
    have hx : ms[i]? = some ms[i] := List.getElem?_eq_getElem hlt
    have hmem : ms[i] ∈ ms := List.getElem_mem hlt
    have hseg := fm_seg TokM.len ms hx
    have hat := hT.each _ hmem
    have hsm := hs _ hmem
    have hps : ∃ a, p = some a := hIm.some (by omega)
    have hmt := (hmay ms[i].t (List.mem_map_of_mem hmem)).1
    have htk : (toks ms).take (i + 1) = (toks ms).take i ++ [ms[i].t] := by
      unfold toks; rw [List.take_add_one, List.getElem?_map, hx]; rfl
    have hli1 := hlen (i + 1) hlt
    rw [htk, run_snoc] at hli1
    generalize ms[i] = m at *
    clear hc
    obtain ⟨t, mp, mc⟩ := m
    dsimp only at hat hsm htk hmt hli1
    rw [List.length_append, List.length_append] at hli1
    have htake := fun w' cs' hS' => bTake_ok b (runB k ba0 ((toks ms).take i)).s qo co qg cg k vt (.slice qf fl.length cf) t mp mc hmt hsm hri.1 hco hcg (Nat.le_trans hri.2 (by omega)) (by omega) (by omega) w0 w' cs' hA hat hS'
    have hsn := run_snoc k ba0 ((toks ms).take i) t
    rw [← htk] at hsn
    generalize takeB k (runB k ba0 ((toks ms).take i)).s t = o at *
    generalize runB k ba0 ((toks ms).take i) = O at *
    obtain ⟨tk, nm, tx, te, tf, ta, tb, td⟩ := t
    refine sgo ?_
    rw [hseg]
    refine salloc hS fun b5 w5 hS => ?_
    refine sgo ?_
    refine ssta (vs := [int tk, str nm, str tx, .slice mp te.length mc, .bool tf, int ta, int tb, int td]) hS 0 fun w6 hS => ?_
    refine sgo ?_
    replace hS : Sep w0 w6 (kP b O.s qo co qg cg k false vt (.slice qf fl.length cf) (pRow 4 q os.length c1 (os.flatMap EvM.cells) :: pMany (os.map EvM.row) :: pRow 5 fq O.fs.length fc (O.fs.flatMap Fi.cells) :: cs)) := hS.sel 8 [1, 2, 3, 5, 6, 7]
    refine wlcall (htake _ _ hS) ?_
    repeat clear hS
    clear htake
    rintro _ w7 ⟨⟨s2, qo2, co2, qg2, cg2, ms2, qt2, ct2, fs2, qf2, cf2, dp2, ov2⟩, rfl, g1, g2, g3, g4, g5, g6, g7, hS⟩
    dsimp only at g1 g2 g3 g4 g5 g6 g7 ⊢
    have hm2 : ms2.length = o.es.length := by rw [← g2, evs_len]
    have hf2 : fs2.length = o.fs.length := by rw [g3]
    replace hS : Sep w0 w7 (pOwn b [.slice qo2 s2.op.length co2, .slice qg2 s2.gh.length cg2, .bool s2.fr, .slice qt2 ms2.length ct2, int dp2, .slice qf2 fs2.length cf2, .bool true, .bool ov2] :: pVw qo2 (strs s2.op) :: pVw qg2 (strs s2.gh) :: pRow 4 qt2 ms2.length ct2 (ms2.flatMap EvM.cells) :: pMany (ms2.map EvM.row) :: pRow 5 qf2 fs2.length cf2 (fs2.flatMap Fi.cells) :: pRow 4 q os.length c1 (os.flatMap EvM.cells) :: pMany (os.map EvM.row) :: pRow 5 fq O.fs.length fc (O.fs.flatMap Fi.cells) :: cs) := hS
    refine sgo ?_
    refine sapp hS 6 (hS.sgv 3 rfl) (fun q3 c3 w8 hS => ?_) (hl := fm_len EvM.len ms2) (h1 := evm_one ms2)
    refine sgo ?_
    refine sapp hS 8 (hS.sgv 5 rfl) (fun q4 c4 w9 hS => ?_) (hl := fm_len Fi.len fs2) (h1 := fis_one fs2)
    refine sgo ?_
    have hee : evs (os ++ ms2) = O.es ++ o.es := by rw [← hos, ← g2]; simp [evs]
    have hS2 := (hS.sel 9 [4, 7, 0, 1, 2, 5, 6, 8]).both.sel 7 [1, 2, 3, 4, 5, 0, 6]
    rw [← List.flatMap_append, ← List.flatMap_append, ← List.map_append, g3, show os.length + ms2.length = (os ++ ms2).length by simp, show O.fs.length + o.fs.length = (O.fs ++ o.fs).length by simp] at hS2
    refine ⟨(i + 1, os ++ ms2, q3, c3, q4, c4), ⟨rfl, ?_, ?_, rfl, rfl, rfl, trivial⟩, ⟨hlt, ?_, qo2, co2, qg2, cg2, .slice qt2 ms2.length ct2, o.fs, qf2, cf2, ?_, ?_, ?_⟩, (by (try dsimp only); omega)⟩
    · show Value.slice _ _ _ = Value.slice _ _ _
      rw [List.length_append]
    · show Value.slice _ _ _ = Value.slice _ _ _
      dsimp only
      rw [hsn, List.length_append, hf2]
    · dsimp only; rw [hsn]; exact hee
    · dsimp only; rw [hsn, ← g1]; exact g6
    · dsimp only; rw [hsn, ← g1]; exact g7
    · dsimp only
      rw [hsn]
      dsimp only
      rw [← g1, ← g4, ← g5]
      exact hS2
  · obtain rfl : i = ms.length := by omega
    have htk : (toks ms).take ms.length = toks ms := List.take_of_length_le (by rw [toks_len]; exact Nat.le_refl _)
    rw [htk] at hos hco hcg hS hri hli hol ⊢
    clear hrun hlen
    refine sgo ?_
    refine wlcall (bEnd_ok b (runB k ba0 (toks ms)).s qo co qg cg k vt fl qf cf hco hcg (Nat.le_trans hri.2 (by omega)) w0 _ _ hS) ?_
    repeat clear hS
    rintro _ w7 ⟨⟨s2, qo2, co2, qg2, cg2, ms2, qt2, ct2, fs2, qf2, cf2, dp2, ov2⟩, rfl, g1, g2, g3, g4, g5, g6, g7, hS⟩
    dsimp only at g1 g2 g3 g4 g5 g6 g7 ⊢
    have hm2 : ms2.length ≤ 1024 := by
      have := congrArg List.length g2
      rw [evs_len, List.length_map, offN_len _ _ (Nat.le_refl _)] at this
      have := hri.2
      dsimp only at this
      omega
    replace hS : Sep w0 w7 (pOwn b [.slice qo2 s2.op.length co2, .slice qg2 s2.gh.length cg2, .bool s2.fr, .slice qt2 ms2.length ct2, int dp2, .slice qf2 fs2.length cf2, .bool true, .bool ov2] :: pVw qo2 (strs s2.op) :: pVw qg2 (strs s2.gh) :: pRow 4 qt2 ms2.length ct2 (ms2.flatMap EvM.cells) :: pMany (ms2.map EvM.row) :: pRow 5 qf2 fs2.length cf2 (fs2.flatMap Fi.cells) :: pRow 4 q os.length c1 (os.flatMap EvM.cells) :: pMany (os.map EvM.row) :: pRow 5 fq (runB k ba0 (toks ms)).fs.length fc ((runB k ba0 (toks ms)).fs.flatMap Fi.cells) :: cs) := hS
    refine sgo ?_
    refine sapp hS 6 (hS.sgv 3 rfl) (fun q3 c3 w8 hS => ?_) (hl := fm_len EvM.len ms2) (h1 := evm_one ms2)
    refine sgo ?_
    (first | refine fp1 (.inl rfl) rfl rfl ?_ | refine fp2 (.inl rfl) rfl rfl rfl ?_ | refine fp3 (.inl rfl) rfl rfl rfl rfl ?_ | refine fp0 (.inr rfl) rfl ?_ | refine fp0 (.inl rfl) rfl ?_ | refine fp1 (.inr rfl) rfl rfl ?_)
    refine ⟨fun h => (by rw [hal] at h; cases h), fun _ => ⟨os ++ ms2, q3, c3, fq, fc, ?_, ?_, ?_⟩⟩
    · rw [List.length_append]; rfl
    · unfold allE; rw [← g2, ← hos]; simp [evs]
    · have hS2 := (hS.sel 9 [4, 7, 6, 8]).both.sel 3 [1, 0, 2]
      rw [← List.flatMap_append, ← List.map_append, show os.length + ms2.length = (os ++ ms2).length by simp] at hS2
      exact hS2
end Go.Proofs.YtmnnffenijjpcaaGreatDoor

/-
  Package sieveref04: Trim; package sieveref16: End.
-/
set_option linter.unusedSimpArgs false
set_option linter.unusedVariables false
set_option linter.unnecessarySimpa false
namespace Go.Proofs.YtmnnffenijjpcaaGreatDoor
open Go Go.Sv Go.RowKit

def trimR (s : List UInt8) : List UInt8 := dropE blkR (s.dropWhile blkR)
/-- a clean name -/
def cleanN (n : Nm) : Bool := decide (trimR n = n) && (decide ((fieldsR n).length = 1) && !isVoid n)
/-! ## End -/
def cTbl : Nm := [99, 97, 112, 116, 105, 111, 110, 32, 99, 111, 108, 103, 114, 111, 117, 112, 32, 116, 104, 101, 97, 100, 32, 116, 98, 111, 100, 121, 32, 116, 102, 111, 111, 116, 32, 116, 114, 32, 116, 100, 32, 116, 104]
def refEndO (s : List Nm) (name : Nm) : Option Nat :=
  if isR name cHeads then abvR (topN (fun n => isR n cHeads) s) (topN (fun n => isR n cWalls) s)
  else if name = nTable then topN (fun n => isR n nTable) s
  else if isR name cTbl then abvR (topN (fun n => isR n name) s) (topN (fun n => isR n nTable) s)
  else if cleanN name then abvR (topN (fun n => isR n name) s) (topN (fun n => isR n cWalls) s)
  else none
end Go.Proofs.YtmnnffenijjpcaaGreatDoor

/-
  Package sieveref17: close, open, deep, Blank.
-/
set_option linter.unusedSimpArgs false
set_option linter.unusedVariables false
set_option linter.unnecessarySimpa false
namespace Go.Proofs.YtmnnffenijjpcaaGreatDoor
open Go Go.Sv Go.RowKit

/-- a state in memory -/
structure StM where
  s : BaS
  qo : Option Addr
  co : Nat
  qg : Option Addr
  cg : Nat
  dp : Nat
  ov : Bool
def StM.cells (m : StM) : List Value := [int m.dp, .slice m.qo m.s.op.length m.co, .slice m.qg m.s.gh.length m.cg, .bool m.s.fr, .bool m.ov]
def StM.plots (m : StM) (b : Nat) (cs : List Plot) : List Plot := pOwn b m.cells :: pVw m.qo (strs m.s.op) :: pVw m.qg (strs m.s.gh) :: cs
structure StM.to (m m' : StM) (s : BaS) : Prop where
  s : m'.s = s
  dp : m'.dp = m.dp
  ov : m'.ov = m.ov
  co : m'.s.op.length ≤ m'.co
  cg : m'.s.gh.length ≤ m'.cg
theorem StM.to.trans {m m' m'' : StM} {s s' : BaS} (h : m.to m' s) (h' : m'.to m'' s') : m.to m'' s' := ⟨h'.s, by rw [h'.dp, h.dp], by rw [h'.ov, h.ov], h'.co, h'.cg⟩
def soP (b : Nat) (qo : Option Addr) (co : Nat) (op : List Nm) (nm : Nm) : PlanB Unit where
  pl k d := match k with
    | 17 => [pOwn d.b [str nm]]
    | 18 => [pRow 1 (pb d.b) (op.length + 1) d.c (strs op ++ [str nm])]
    | _ => []
  con k := match k with
    | 17 => some 18
    | _ => none
  base k := match k with
    | _ => []
  fact k a := match k with
    | 0 => (a 0).v = ptrAt (pb b) 0
    | 1 => (a 1).v = ptrAt (pb b) 0
    | 2 => (a 2).v = ptrAt (pb b) 0
    | 3 => (a 3).v = ptrAt (pb b) 1
    | 4 => (a 4).v = .slice qo op.length co
    | 5 => (a 5).v = ptrAt (pb b) 0
    | 6 => (a 6).v = ptrAt (pb b) 0
    | 7 => (a 7).v = ptrAt (pb b) 1
    | 8 => (a 8).v = .slice qo op.length co
    | 9 => (a 9).v = int op.length
    | 10 => (a 10).v = ptrAt (pb b) 0
    | 11 => (a 11).v = ptrAt (pb b) 0
    | 12 => (a 12).v = ptrAt (pb b) 1
    | 13 => (a 13).v = .slice qo op.length co
    | 14 => (a 14).v = int op.length
    | 15 => (a 15).v = .slice qo op.length op.length
    | 16 => (a 16).v = str nm
    | 17 => (a 17).v = .slice (pb (a 17).b) 1 1
    | 18 => (a 18).v = .slice (pb (a 18).b) (op.length + 1) (a 18).c
    | 19 => True
    | 20 => True
    | 21 => True
    | _ => True
end Go.Proofs.YtmnnffenijjpcaaGreatDoor

/-
  Package sieveref17: ready.
-/
set_option linter.unusedSimpArgs false
set_option linter.unusedVariables false
set_option linter.unnecessarySimpa false
namespace Go.Proofs.YtmnnffenijjpcaaGreatDoor
open Go Go.Sv Go.RowKit

def mk0 (e : Ev) : EvM := ⟨e, none, 0⟩
end Go.Proofs.YtmnnffenijjpcaaGreatDoor

/-
  Package sieveref17: start.
-/
set_option linter.unusedSimpArgs false
set_option linter.unusedVariables false
set_option linter.unnecessarySimpa false
namespace Go.Proofs.YtmnnffenijjpcaaGreatDoor
open Go Go.Sv Go.RowKit

/-- what Take gives -/
def SaR (m : StM) (b : Nat) (o : OutB) (w0 : World) (cs : List Plot) (v : Value) (w' : World) : Prop :=
  ∃ (m' : StM) (es : List EvM) (q : Option Addr) (c : Nat) (qf : Option Addr) (cf : Nat), v = .tuple #[.slice q es.length c, .slice qf o.fs.length cf] ∧ evs es = o.es ∧ (∀ e ∈ es, Im [] w0 e.p (e.e.attrs.flatMap At.cells)) ∧ m.to m' o.s ∧
    Sep w0 w' (m'.plots b (pRow 4 q es.length c (es.flatMap EvM.cells) :: pRow 5 qf o.fs.length cf (o.fs.flatMap Fi.cells) :: cs))
def s2P (b3 : Nat) (ta tb td : Int) (nm : Nm) : PlanB Unit where
  pl k d := match k with
    | 5 => [pOwn d.b [int ta, int tb, int td, int 0, str nm]]
    | _ => []
  con k := match k with
    | _ => none
  base k := match k with
    | _ => []
  fact k a := match k with
    | 0 => (a 0).v = ptrAt (pb b3) 5
    | 1 => (a 1).v = .agg ⟨[int ta, int tb, int td]⟩
    | 2 => (a 2).v = ptrAt (pb b3) 1
    | 3 => (a 3).v = str nm
    | 4 => (a 4).v = .agg ⟨[int ta, int tb, int td, int 0, str nm]⟩
    | 5 => (a 5).v = .slice (pb (a 5).b) 1 1
    | 6 => (a 6).v = .slice none 0 0
    | 7 => (a 7).v = .slice (pb (a 7).b) 1 1 ∧ (a 7).b = (a 5).b
    | _ => True
def s4P (b b3 : Nat) (qo : Option Addr) (co : Nat) (op : List Nm) (nm : Nm) (p : PlanR) : PlanB (Option Addr × Nat) where
  pl k d := match k with
    | 6 => [pVw d.x.1 (strs p.put)]
    | 7 => [pOwn d.b [int 0, .slice none 0 0, .bool false]]
    | 8 => [pOwn d.b [int p.ends, .slice d.x.1 p.put.length d.x.2, .bool p.drop]]
    | _ => []
  con k := match k with
    | 7 => some 8
    | _ => none
  base k := match k with
    | _ => []
  fact k a := match k with
    | 0 => (a 0).v = ptrAt (pb b) 0
    | 1 => (a 1).v = ptrAt (pb b) 0
    | 2 => (a 2).v = ptrAt (pb b) 1
    | 3 => (a 3).v = .slice qo op.length co
    | 4 => (a 4).v = ptrAt (pb b3) 1
    | 5 => (a 5).v = str nm
    | 6 => (a 6).v = .agg ⟨[int p.ends, .slice (a 6).x.1 p.put.length (a 6).x.2, .bool p.drop]⟩
    | 7 => (a 7).v = ptrAt (pb (a 7).b) 0
    | 8 => (a 8).b = (a 7).b ∧ (a 8).x = (a 6).x
    | _ => True
def s7P (b b3 : Nat) (qg : Option Addr) (cg : Nat) (gh : List Nm) (nm : Nm) : PlanB Unit where
  pl k d := match k with
    | 18 => [pOwn d.b [str nm]]
    | 19 => [pRow 1 (pb d.b) (gh.length + 1) d.c (strs gh ++ [str nm])]
    | _ => []
  con k := match k with
    | 18 => some 19
    | _ => none
  base k := match k with
    | _ => []
  fact k a := match k with
    | 0 => (a 0).v = ptrAt (pb b) 0
    | 1 => (a 1).v = ptrAt (pb b) 0
    | 2 => (a 2).v = ptrAt (pb b) 0
    | 3 => (a 3).v = ptrAt (pb b) 2
    | 4 => (a 4).v = .slice qg gh.length cg
    | 5 => (a 5).v = ptrAt (pb b) 0
    | 6 => (a 6).v = ptrAt (pb b) 0
    | 7 => (a 7).v = ptrAt (pb b) 2
    | 8 => (a 8).v = .slice qg gh.length cg
    | 9 => (a 9).v = int gh.length
    | 10 => (a 10).v = ptrAt (pb b) 0
    | 11 => (a 11).v = ptrAt (pb b) 0
    | 12 => (a 12).v = ptrAt (pb b) 2
    | 13 => (a 13).v = .slice qg gh.length cg
    | 14 => (a 14).v = int gh.length
    | 15 => (a 15).v = .slice qg gh.length gh.length
    | 16 => (a 16).v = ptrAt (pb b3) 1
    | 17 => (a 17).v = str nm
    | 18 => (a 18).v = .slice (pb (a 18).b) 1 1
    | 19 => (a 19).v = .slice (pb (a 19).b) (gh.length + 1) (a 19).c
    | 20 => True
    | 21 => True
    | 22 => True
    | _ => True
def s8P (b3 : Nat) (ta tb td : Int) (nm : Nm) : PlanB Unit where
  pl k d := match k with
    | 5 => [pOwn d.b [int ta, int tb, int td, int 8, str nm]]
    | _ => []
  con k := match k with
    | _ => none
  base k := match k with
    | _ => []
  fact k a := match k with
    | 0 => (a 0).v = ptrAt (pb b3) 5
    | 1 => (a 1).v = .agg ⟨[int ta, int tb, int td]⟩
    | 2 => (a 2).v = ptrAt (pb b3) 1
    | 3 => (a 3).v = str nm
    | 4 => (a 4).v = .agg ⟨[int ta, int tb, int td, int 8, str nm]⟩
    | 5 => (a 5).v = .slice (pb (a 5).b) 1 1
    | 6 => (a 6).v = .slice none 0 0
    | 7 => (a 7).v = .slice (pb (a 7).b) 1 1 ∧ (a 7).b = (a 5).b
    | _ => True
end Go.Proofs.YtmnnffenijjpcaaGreatDoor

/-
  Package sieveref17: text, end.
-/
set_option linter.unusedSimpArgs false
set_option linter.unusedVariables false
set_option linter.unnecessarySimpa false
namespace Go.Proofs.YtmnnffenijjpcaaGreatDoor
open Go Go.Sv Go.RowKit

def t6P (b : Nat) (qo : Option Addr) (co : Nat) (op : List Nm) (x : Nm) (p : PlanR) : PlanB (Option Addr × Nat) where
  pl k d := match k with
    | 6 => [pVw d.x.1 (strs p.put)]
    | 7 => [pOwn d.b [int 0, .slice none 0 0, .bool false]]
    | 8 => [pOwn d.b [int p.ends, .slice d.x.1 p.put.length d.x.2, .bool p.drop]]
    | _ => []
  con k := match k with
    | 7 => some 8
    | _ => none
  base k := match k with
    | _ => []
  fact k a := match k with
    | 0 => (a 0).v = ptrAt (pb b) 0
    | 1 => (a 1).v = ptrAt (pb b) 0
    | 2 => (a 2).v = ptrAt (pb b) 1
    | 3 => (a 3).v = .slice qo op.length co
    | 4 => (a 4).v = str x
    | 5 => (a 5).v = .bool (isBlank x)
    | 6 => (a 6).v = .agg ⟨[int p.ends, .slice (a 6).x.1 p.put.length (a 6).x.2, .bool p.drop]⟩
    | 7 => (a 7).v = ptrAt (pb (a 7).b) 0
    | 8 => (a 8).b = (a 7).b ∧ (a 8).x = (a 6).x
    | _ => True
def t10P (b3 : Nat) (ta tb td : Int) : PlanB Unit where
  pl k d := match k with
    | 3 => [pOwn d.b [int ta, int tb, int td, int 8, str []]]
    | _ => []
  con k := match k with
    | _ => none
  base k := match k with
    | _ => []
  fact k a := match k with
    | 0 => (a 0).v = ptrAt (pb b3) 5
    | 1 => (a 1).v = .agg ⟨[int ta, int tb, int td]⟩
    | 2 => (a 2).v = .agg ⟨[int ta, int tb, int td, int 8, str []]⟩
    | 3 => (a 3).v = .slice (pb (a 3).b) 1 1
    | 4 => (a 4).v = .slice none 0 0
    | 5 => (a 5).v = .slice (pb (a 5).b) 1 1 ∧ (a 5).b = (a 3).b
    | _ => True
end Go.Proofs.YtmnnffenijjpcaaGreatDoor

/-
  Package sieveref17: end, Take, End.
-/
set_option linter.unusedSimpArgs false
set_option linter.unusedVariables false
set_option linter.unnecessarySimpa false
namespace Go.Proofs.YtmnnffenijjpcaaGreatDoor
open Go Go.Sv Go.RowKit

def e9P (b3 : Nat) (ta tb td : Int) (nm : Nm) : PlanB Unit where
  pl k d := match k with
    | 5 => [pOwn d.b [int ta, int tb, int td, int 7, str nm]]
    | _ => []
  con k := match k with
    | _ => none
  base k := match k with
    | _ => []
  fact k a := match k with
    | 0 => (a 0).v = ptrAt (pb b3) 5
    | 1 => (a 1).v = .agg ⟨[int ta, int tb, int td]⟩
    | 2 => (a 2).v = ptrAt (pb b3) 1
    | 3 => (a 3).v = str nm
    | 4 => (a 4).v = .agg ⟨[int ta, int tb, int td, int 7, str nm]⟩
    | 5 => (a 5).v = .slice (pb (a 5).b) 1 1
    | 6 => (a 6).v = .slice none 0 0
    | 7 => (a 7).v = .slice (pb (a 7).b) 1 1 ∧ (a 7).b = (a 5).b
    | _ => True
end Go.Proofs.YtmnnffenijjpcaaGreatDoor

/-
  Package sieveref17: All.
-/
set_option linter.unusedSimpArgs false
set_option linter.unusedVariables false
set_option linter.unnecessarySimpa false
namespace Go.Proofs.YtmnnffenijjpcaaGreatDoor
open Go Go.Sv Go.RowKit

/-- what the reference's All gives -/
def slP (k : Nat) (l : List Tok) (w0 : World) (cs : List Plot) (v : Value) (w' : World) : Prop :=
  ∃ (es : List EvM) (q : Option Addr) (c : Nat) (fq : Option Addr) (fc : Nat), v = .tuple #[.slice q es.length c, .slice fq (allF k l).length fc] ∧ evs es = allE k l ∧ (∀ e ∈ es, Im [] w0 e.p (e.e.attrs.flatMap At.cells)) ∧ Sep w0 w' (pRow 4 q es.length c (es.flatMap EvM.cells) :: pRow 5 fq (allF k l).length fc ((allF k l).flatMap Fi.cells) :: cs)
end Go.Proofs.YtmnnffenijjpcaaGreatDoor

/-
  sievelaw17: start, text, end, lives; BalanceNames.
-/
set_option linter.unusedSimpArgs false
set_option linter.unusedVariables false
set_option linter.unnecessarySimpa false
namespace Go.Proofs.YtmnnffenijjpcaaGreatDoor
open Go Go.Sv Go.RowKit

def tkN (k : Int) (n : Nm) : Tok := ⟨k, n, [], [], false, 0, 0, 0⟩
def tkT (x : Nm) : Tok := ⟨0, [], x, [], false, 0, 0, 0⟩
set_option maxHeartbeats 1000000 in
theorem start17_ok (n : Nm) (w : World) : PureC Tryz.prog 21 #[str n] w (.agg ⟨(tkN 1 n).cells none 0⟩) := by
  have hS := Sep.start w
  refine enter (l := [str n]) Tryz.func21 rfl Tryz.ntmps21 (by kernel_rfl) rfl ?_
  refine sgo ?_
  refine salloc hS fun b w1 hS => ?_
  refine sgo ?_
  refine wlbuild (cells := [int 1, str n, str [], .slice none 0 0, .bool false, int 0, int 0, int 0]) ?_
  refine ssta (vs := [int 1, str n, str [], .slice none 0 0, .bool false, int 0, int 0, int 0]) hS 0 fun w2 hS => ?_
  replace hS : Sep w w2 [pOwn b [int 1, str n, str [], .slice none 0 0, .bool false, int 0, int 0, int 0]] := hS
  refine sgo ?_
  exact fpc (.inl rfl) rfl rfl rfl (hS.own 0 rfl) ⟨rfl, hS.frm⟩
set_option maxHeartbeats 1000000 in
theorem end17_ok (n : Nm) (w : World) : PureC Tryz.prog 28 #[str n] w (.agg ⟨(tkN 2 n).cells none 0⟩) := by
  have hS := Sep.start w
  refine enter (l := [str n]) Tryz.func28 rfl Tryz.ntmps28 (by kernel_rfl) rfl ?_
  refine sgo ?_
  refine salloc hS fun b w1 hS => ?_
  refine sgo ?_
  refine wlbuild (cells := [int 2, str n, str [], .slice none 0 0, .bool false, int 0, int 0, int 0]) ?_
  refine ssta (vs := [int 2, str n, str [], .slice none 0 0, .bool false, int 0, int 0, int 0]) hS 0 fun w2 hS => ?_
  replace hS : Sep w w2 [pOwn b [int 2, str n, str [], .slice none 0 0, .bool false, int 0, int 0, int 0]] := hS
  refine sgo ?_
  exact fpc (.inl rfl) rfl rfl rfl (hS.own 0 rfl) ⟨rfl, hS.frm⟩
set_option maxHeartbeats 1000000 in
theorem text17_ok (x : Nm) (w : World) : PureC Tryz.prog 27 #[str x] w (.agg ⟨(tkT x).cells none 0⟩) := by
  have hS := Sep.start w
  refine enter (l := [str x]) Tryz.func27 rfl Tryz.ntmps27 (by kernel_rfl) rfl ?_
  refine sgo ?_
  refine salloc hS fun b w1 hS => ?_
  refine sgo ?_
  refine wlbuild (cells := [int 0, str [], str x, .slice none 0 0, .bool false, int 0, int 0, int 0]) ?_
  refine ssta (vs := [int 0, str [], str x, .slice none 0 0, .bool false, int 0, int 0, int 0]) hS 0 fun w2 hS => ?_
  replace hS : Sep w w2 [pOwn b [int 0, str [], str x, .slice none 0 0, .bool false, int 0, int 0, int 0]] := hS
  refine sgo ?_
  exact fpc (.inl rfl) rfl rfl rfl (hS.own 0 rfl) ⟨rfl, hS.frm⟩
def exB : List TokM := [⟨tkN 1 [98], none, 0⟩, ⟨tkT [120], none, 0⟩, ⟨tkN 1 [105], none, 0⟩, ⟨tkN 2 [98], none, 0⟩, ⟨tkN 1 nLi, none, 0⟩]
def exE : List Ev := [opE [98] [], txE [120], opE [105] [], closeE [105], closeE [98], opE nUl [], opE nLi [], closeE nLi, closeE nUl]
theorem exB_all : allE 9 (toks exB) = exE ∧ allF 9 (toks exB) = [⟨0, 0, 0, 9, nUl⟩] ∧ (toks exB).all mayR = true := by decide +kernel
theorem exB_small : ∀ m ∈ exB, m.t.small := by
  intro m hm
  simp only [exB, List.mem_cons, List.not_mem_nil, or_false] at hm
  rcases hm with rfl | rfl | rfl | rfl | rfl <;> exact ⟨by decide, by decide, by decide, fun x hx => nomatch hx⟩
set_option maxHeartbeats 4000000 in
theorem lives17_ok (w : World) (hA : Asc w) : PureC Tryz.prog 8 #[] w (.bool true) := by
  refine enter (l := []) Tryz.func8 rfl Tryz.ntmps8 (by kernel_rfl) rfl ?_
  have hS := Sep.start w
  refine sgo ?_
  refine wlpure (start17_ok [98] _) fun w1 hf1 => ?_
  replace hS := hS.grow hf1
  refine sgo ?_
  refine wlpure (text17_ok [120] _) fun w2 hf2 => ?_
  replace hS := hS.grow hf2
  refine sgo ?_
  refine wlpure (start17_ok [105] _) fun w3 hf3 => ?_
  replace hS := hS.grow hf3
  refine sgo ?_
  refine wlpure (end17_ok [98] _) fun w4 hf4 => ?_
  replace hS := hS.grow hf4
  refine sgo ?_
  refine wlpure (start17_ok nLi _) fun w5 hf5 => ?_
  replace hS := hS.grow hf5
  refine sgo ?_
  refine wlbsr (vs := exB.map TokM.cells) 5 (fun b w6 hb ho hf => ?_) (h1 := fun v hv => by obtain ⟨m, _, rfl⟩ := List.mem_map.1 hv; rfl)
  replace hS : Sep w w6 [pOwn b (exB.flatMap TokM.cells)] := hS.push hf ho (by simpa [pOwn] using hb)
  refine sgo ?_
  have hT : Toks w6 (pb b) exB := ⟨(hS.own 0 rfl).im (by simp), fun m hm => by
    simp only [exB, List.mem_cons, List.not_mem_nil, or_false] at hm
    rcases hm with rfl | rfl | rfl | rfl | rfl <;> exact Im.nil _ _ _⟩
  have hF6 := hS.frm
  refine wlcall (bAll_ok 9 (by decide) exB (pb b) 5 (by decide) exB_small w6 w6 [] (hA.frm hF6) hT (Sep.start w6)) ?_
  repeat clear hS
  rintro _ w7 ⟨-, hgood⟩
  obtain ⟨es, q, c, fq, fc, rfl, hev, hS⟩ := hgood exB_all.2.2
  rw [exB_all.1] at hev
  rw [exB_all.2.1] at hS ⊢
  have hl : es.length = 9 := by rw [← evs_len, hev]; rfl
  have hat : ∀ (i : Nat) (e : Ev), exE[i]? = some e → ∃ m : EvM, es[i]? = some m ∧ m.e = e := by
    intro i e h
    rw [← hev, evs, List.getElem?_map] at h
    cases hm : es[i]? with
    | none => rw [hm] at h; cases h
    | some m => rw [hm] at h; injection h with h; exact ⟨m, rfl, h⟩
  obtain ⟨m3, h3, e3⟩ := hat 3 _ rfl
  obtain ⟨m5, h5, e5⟩ := hat 5 _ rfl
  have g13 : (es.flatMap EvM.cells)[3 * 4 + 1]? = some (str [105]) := by
    rw [fm_get EvM.len es 3 1 (by decide), h3]; show some (str m3.e.name) = _; rw [e3]; rfl
  have g12 : (es.flatMap EvM.cells)[3 * 4]? = some (int 2) := by
    rw [show 3 * 4 = 3 * 4 + 0 from rfl, fm_get EvM.len es 3 0 (by decide), h3]; show some (int m3.e.kind) = _; rw [e3]; rfl
  have g21 : (es.flatMap EvM.cells)[5 * 4 + 1]? = some (str nUl) := by
    rw [fm_get EvM.len es 5 1 (by decide), h5]; show some (str m5.e.name) = _; rw [e5]; rfl
  have hfl := fm_len EvM.len es
  have hqs : ∃ a, q = some a := (hS.row 0 rfl).sg.some (by omega)
  have hfs : ∃ a, fq = some a := (hS.row 2 rfl).sg.some (by decide)
  have hF7 := hF6.trans hS.frm
  generalize es.flatMap EvM.cells = F at *
  rw [hl] at hS ⊢
  clear hat h3 h5 e3 e5 hev hgood hl hfl
  replace hS : Sep w6 w7 [pRow 4 q 9 c F, pMany (es.map EvM.row), pRow 5 fq 1 fc [int 0, int 0, int 0, int 9, str nUl]] := hS
  refine sgo ?_
  (first | refine fp1 (.inl rfl) rfl rfl ?_ | refine fp2 (.inl rfl) rfl rfl rfl ?_ | refine fp3 (.inl rfl) rfl rfl rfl rfl ?_ | refine fp0 (.inr rfl) rfl ?_ | refine fp0 (.inl rfl) rfl ?_ | refine fp1 (.inr rfl) rfl rfl ?_); refine ⟨?_, by (first | exact Frm.refl _ | assumption | exact Go.Sv.Sep.frm (by assumption) | (refine Frm.trans ?_ (by assumption); first | exact Frm.refl _ | assumption))⟩; (try simp only [realB, rv_true, Nat.reduceBEq, cond_true, cond_false, entG, real_lif, updGL])
  simp [pkb, nUl]
end Go.Proofs.YtmnnffenijjpcaaGreatDoor

/-
  Packages token and sieveref07: Equal, Attr, SameAttrs; sievelaw07: TokenChecks.
-/
set_option linter.unusedSimpArgs false
set_option linter.unusedVariables false
set_option linter.unnecessarySimpa false
namespace Go.Proofs.YtmnnffenijjpcaaGreatDoor
open Go Go.Sv Go.RowKit

def eqR (a b : Tok) : Bool := decide (a.kind = b.kind) && (decide (a.name = b.name) && (decide (a.text = b.text) && (decide (a.self = b.self) && decide (a.attrs = b.attrs))))
theorem at_get0 {es : List At} {i : Nat} {x : At} (hx : es[i]? = some x) : (es.flatMap At.cells)[i * 2]? = some (str x.n) := by
  have := fm_get At.len es i 0 (by omega)
  rw [Nat.add_zero, hx] at this
  exact this
theorem at_get1 {es : List At} {i : Nat} {x : At} (hx : es[i]? = some x) : (es.flatMap At.cells)[i * 2 + 1]? = some (str x.v) := by
  have := fm_get At.len es i 1 (by omega)
  rw [hx] at this
  exact this
theorem at_ext {x y : At} : x = y ↔ x.n = y.n ∧ x.v = y.v := by cases x; cases y; simp
theorem take_eq_succ {α : Type} {l l' : List α} {i : Nat} {x : α} (h : l.take i = l'.take i) (hx : l[i]? = some x) (hy : l'[i]? = some x) : l.take (i + 1) = l'.take (i + 1) := by
  rw [List.take_add_one, List.take_add_one, h, hx, hy]

set_option maxHeartbeats 2000000 in
theorem sameAttrs_ok (es fs : List At) (p q : Option Addr) (c c' : Nat) (hb : es.length ≤ 1048576) (hb' : fs.length ≤ 1048576) (w : World) (hi : Im [] w p (es.flatMap At.cells)) (hj : Im [] w q (fs.flatMap At.cells)) :
    PureC Tryz.prog 29 #[.slice p es.length c, .slice q fs.length c'] w (.bool (decide (es = fs))) := by
  have hl1 := fm_len At.len es
  have hl2 := fm_len At.len fs
  refine enter (l := [.slice p es.length c, .slice q fs.length c']) Tryz.func29 rfl Tryz.ntmps29 (by kernel_rfl) rfl ?_
  refine sgo ?_
  (show WC _ _ _ _ _ _ _; first | refine WC_dec rfl (fun hc => ?_) (fun hc => ?_) | refine WC_cond rfl (fun hc => ?_) (fun hc => ?_))
  · refine sgo ?_
    (first | refine fp1 (.inl rfl) rfl rfl ?_ | refine fp2 (.inl rfl) rfl rfl rfl ?_ | refine fp3 (.inl rfl) rfl rfl rfl rfl ?_ | refine fp0 (.inr rfl) rfl ?_ | refine fp0 (.inl rfl) rfl ?_ | refine fp1 (.inr rfl) rfl rfl ?_); refine ⟨?_, by (first | exact Frm.refl _ | assumption | exact Go.Sv.Sep.frm (by assumption) | (refine Frm.trans ?_ (by assumption); first | exact Frm.refl _ | assumption))⟩; (try simp only [realB, rv_true, Nat.reduceBEq, cond_true, cond_false, entG, real_lif, updGL])
    rw [decide_eq_false]
    rintro rfl
    exact hc rfl
  have hle : es.length = fs.length := by
    have : ¬ ((es.length : Int) ≠ fs.length) := hc
    omega
  clear hc
  refine sgo ?_
  refine wcloop (X := Nat) (fun i => [(0, .slice p es.length c), (1, .slice q fs.length c'), (12, int es.length), (13, int i)]) (fun i wr => i ≤ es.length ∧ es.take i = fs.take i ∧ Frm w wr) (fun i => es.length - i) 0 ⟨rfl, rfl, rfl, rfl, trivial⟩ ⟨by omega, rfl, Frm.refl _⟩ ?_
  rintro i wr ρ ⟨hil, htk, hf⟩
  have hIr := hi.frm hf
  have hJr := hj.frm hf
  refine sgo ?_
  (show WC _ _ _ _ _ _ _; first | refine WC_dec rfl (fun hc => ?_) (fun hc => ?_) | refine WC_cond rfl (fun hc => ?_) (fun hc => ?_))
  · have hlt : i < es.length := by omega
    have hx : es[i]? = some es[i] := List.getElem?_eq_getElem hlt
    have hy : fs[i]? = some fs[i] := List.getElem?_eq_getElem (by omega)
    generalize es[i] = x at *
    generalize fs[i] = y at *
    have g0 := at_get0 hx
    have g1 := at_get1 hx
    have k0 := at_get0 hy
    have k1 := at_get1 hy
    refine sgo ?_
    (first | refine WC_seq ?_ | skip); refine wcdraw ?_
    refine qgo ?_
    refine QL_nil ?_; intro wd hwd
    have hfd := hf.trans hwd
    refine sgo ?_
    (show WC _ _ _ _ _ _ _; first | refine WC_dec rfl (fun hc => ?_) (fun hc => ?_) | refine WC_cond rfl (fun hc => ?_) (fun hc => ?_))
    · refine sgo ?_
      (first | refine fp1 (.inl rfl) rfl rfl ?_ | refine fp2 (.inl rfl) rfl rfl rfl ?_ | refine fp3 (.inl rfl) rfl rfl rfl rfl ?_ | refine fp0 (.inr rfl) rfl ?_ | refine fp0 (.inl rfl) rfl ?_ | refine fp1 (.inr rfl) rfl rfl ?_); refine ⟨?_, by (first | exact Frm.refl _ | assumption | exact Go.Sv.Sep.frm (by assumption) | (refine Frm.trans ?_ (by assumption); first | exact Frm.refl _ | assumption))⟩; (try simp only [realB, rv_true, Nat.reduceBEq, cond_true, cond_false, entG, real_lif, updGL])
      rw [decide_eq_false]
      rintro rfl
      rw [hx] at hy
      obtain rfl := Option.some.inj hy
      revert hc; simp [pkb]
    · refine sgo ?_
      refine ⟨i + 1, ⟨rfl, rfl, rfl, rfl, trivial⟩, ⟨by omega, ?_, hfd⟩, by omega⟩
      have hxy : x = y := by
        rw [at_ext]
        revert hc; simp [pkb]
      rw [← hxy] at hy
      exact take_eq_succ htk hx hy
  · refine sgo ?_
    (first | refine fp1 (.inl rfl) rfl rfl ?_ | refine fp2 (.inl rfl) rfl rfl rfl ?_ | refine fp3 (.inl rfl) rfl rfl rfl rfl ?_ | refine fp0 (.inr rfl) rfl ?_ | refine fp0 (.inl rfl) rfl ?_ | refine fp1 (.inr rfl) rfl rfl ?_); refine ⟨?_, by (first | exact Frm.refl _ | assumption | exact Go.Sv.Sep.frm (by assumption) | (refine Frm.trans ?_ (by assumption); first | exact Frm.refl _ | assumption))⟩; (try simp only [realB, rv_true, Nat.reduceBEq, cond_true, cond_false, entG, real_lif, updGL])
    rw [decide_eq_true]
    rwa [List.take_of_length_le (by omega), List.take_of_length_le (by omega)] at htk















































































































def attrR (es : List At) (n : List UInt8) : Option At := es.find? fun x => decide (x.n = n)
def attrV (o : Option At) : Value := match o with | some x => .tuple #[str x.v, .bool true] | none => .tuple #[str [], .bool false]










































end Go.Proofs.YtmnnffenijjpcaaGreatDoor

/-
  Structs compared whose first field is a struct; sievelaw17: same, findings, names (of what is the same).
-/
set_option linter.unusedSimpArgs false
set_option linter.unusedVariables false
set_option linter.unnecessarySimpa false
namespace Go.Sv
open Go Go.RowKit
/-- a struct whose first field is a plain struct of n cells, the others one cell each -/
class NestS (P : Program) (t : TypeId) (t0 : outParam TypeId) (n : outParam Nat) (ds : outParam (List TypeDesc)) : Prop where
  ok : ∃ f fs, P.underlying t = some (.struct (List.toArray (f :: fs))) ∧ f.name ≠ "_" ∧ f.offset = 0 ∧ f.type = t0 ∧ plainB P fs n ds = true ∧ P.stoodInHeld t = false ∧ P.eqGuardType P.depth t = false
section
variable {P : Program} {w : World} {t t' t0 : TypeId} {n : Nat} {ds ds0 : List TypeDesc} {xs ys : List Value} {r r0 : Bool} {zv : Value} {bytes : Nat}
variable {σ : Env} {d : Option Tmp} {ty : TypeId} {pos : String} {af : Array Edge} {g : Option (Nat × Bool)} {x y : Operand}
end
end Go.Sv
namespace Go.Proofs.YtmnnffenijjpcaaGreatDoor
open Go Go.Sv Go.RowKit
instance : NestS Tryz.prog 68 31 3 [.int .i64, .string] := ⟨_, _, Tryz.underlying68, by decide, rfl, rfl, by kernel_rfl, by kernel_rfl, by kernel_rfl⟩
theorem ev_get {ms : List EvM} {i : Nat} {m : EvM} (h : ms[i]? = some m) (j : Nat) (hj : j < 4) : (ms.flatMap EvM.cells)[i * 4 + j]? = m.cells[j]? := by
  have := fm_get EvM.len ms i j hj
  rw [h] at this
  exact this
set_option maxHeartbeats 4000000 in
theorem same17_ok (ms ns : List EvM) (p q : Option Addr) (c c' : Nat) (hb : ms.length ≤ 33554432) (he : evs ms = evs ns) (hsm : ∀ m ∈ ms, m.e.attrs.length ≤ 1048576) (w : World) (hi : Evs w p ms) (hj : Evs w q ns) :
    PureC Tryz.prog 10 #[.slice p ms.length c, .slice q ns.length c'] w (.bool true) := by
  have hl1 := fm_len EvM.len ms
  have hl2 := fm_len EvM.len ns
  have hle : ns.length = ms.length := by rw [← evs_len, ← he, evs_len]
  have hF := Frm.refl w
  refine enter (l := [.slice p ms.length c, .slice q ns.length c']) Tryz.func10 rfl Tryz.ntmps10 (by kernel_rfl) rfl ?_
  refine sgo ?_
  refine wcno ?_ (ht := by simp [hle])
  refine sgo ?_
  refine wcloop (X := Nat) (fun i => [(0, .slice p ms.length c), (1, .slice q ns.length c'), (12, int ms.length), (13, int i)]) (fun i wr => i ≤ ms.length ∧ Frm w wr) (fun i => ms.length - i) 0 ⟨rfl, rfl, rfl, rfl, trivial⟩ ⟨by omega, hF⟩ ?_
  clear hF
  rintro i wr ρ ⟨hil, hF⟩
  have hIr := hi.im.frm hF
  have hJr := hj.im.frm hF
  refine sgo ?_
  (show WC _ _ _ _ _ _ _; first | refine WC_dec rfl (fun hc => ?_) (fun hc => ?_) | refine WC_cond rfl (fun hc => ?_) (fun hc => ?_))
  · have hlt : i < ms.length := by omega
    clear hc
    have hx0 : ms[i]? = some ms[i] := List.getElem?_eq_getElem hlt
    have hy0 : ns[i]? = some ns[i] := List.getElem?_eq_getElem (by omega)
    have hxy : ms[i].e = ns[i].e := by
      have h1 := congrArg (·[i]?) he
      simp only [evs, List.getElem?_map, hx0, hy0, Option.map_some, Option.some.injEq] at h1
      exact h1
    have hat := (hi.each _ (List.getElem_mem hlt)).frm hF
    have hbt := (hj.each _ (List.getElem_mem (show i < ns.length by omega))).frm hF
    have hal := hsm _ (List.getElem_mem hlt)
    generalize ms[i] = m at *
    generalize ns[i] = n at *
    obtain ⟨⟨kd, nm, tx, es⟩, mp, mc⟩ := m
    obtain ⟨en, np, nc⟩ := n
    dsimp only at hxy hat hbt hal
    subst hxy
    dsimp only at hbt
    have g0 : (ms.flatMap EvM.cells)[i * 4]? = some (int kd) := ev_get hx0 0 (by decide)
    have g1 : (ms.flatMap EvM.cells)[i * 4 + 1]? = some (str nm) := ev_get hx0 1 (by decide)
    have g2 : (ms.flatMap EvM.cells)[i * 4 + 2]? = some (str tx) := ev_get hx0 2 (by decide)
    have g3 : (ms.flatMap EvM.cells)[i * 4 + 3]? = some (.slice mp es.length mc) := ev_get hx0 3 (by decide)
    have k0 : (ns.flatMap EvM.cells)[i * 4]? = some (int kd) := ev_get hy0 0 (by decide)
    have k1 : (ns.flatMap EvM.cells)[i * 4 + 1]? = some (str nm) := ev_get hy0 1 (by decide)
    have k2 : (ns.flatMap EvM.cells)[i * 4 + 2]? = some (str tx) := ev_get hy0 2 (by decide)
    have k3 : (ns.flatMap EvM.cells)[i * 4 + 3]? = some (.slice np es.length nc) := ev_get hy0 3 (by decide)
    have hps : ∃ a, p = some a := hIr.some (by omega)
    have hqs : ∃ a, q = some a := hJr.some (by omega)
    generalize ms.flatMap EvM.cells = F1 at *
    generalize ns.flatMap EvM.cells = F2 at *
    have hsame := fun w' (hw : Frm wr w') => sameAttrs_ok es es mp np mc nc hal hal w' (hat.frm hw) (hbt.frm hw)
    refine sgo ?_
    (first | refine WC_seq ?_ | skip); refine wcdraw ?_
    refine qgo ?_
    refine qlcallgp (vals := [.slice mp es.length mc, .slice np es.length nc]) (fun _ w' hw => hsame w' hw) ?_
    refine qgo ?_
    refine QL_nil ?_; intro wd hwd
    refine sgo ?_
    refine wcno ?_ (ht := by simp [pkb])
    refine sgo ?_
    exact ⟨i + 1, ⟨rfl, rfl, rfl, rfl, trivial⟩, ⟨hlt, hF.trans hwd⟩, by omega⟩
  · refine sgo ?_
    (first | refine fp1 (.inl rfl) rfl rfl ?_ | refine fp2 (.inl rfl) rfl rfl rfl ?_ | refine fp3 (.inl rfl) rfl rfl rfl rfl ?_ | refine fp0 (.inr rfl) rfl ?_ | refine fp0 (.inl rfl) rfl ?_ | refine fp1 (.inr rfl) rfl rfl ?_); refine ⟨?_, by (first | exact Frm.refl _ | assumption | exact Go.Sv.Sep.frm (by assumption) | (refine Frm.trans ?_ (by assumption); first | exact Frm.refl _ | assumption))⟩; (try simp only [realB, rv_true, Nat.reduceBEq, cond_true, cond_false, entG, real_lif, updGL])
end Go.Proofs.YtmnnffenijjpcaaGreatDoor

/-
  sievelaw17: BalanceAll.
-/
set_option linter.unusedSimpArgs false
set_option linter.unusedVariables false
set_option linter.unnecessarySimpa false
namespace Go.Proofs.YtmnnffenijjpcaaGreatDoor
open Go Go.Sv Go.RowKit

def AllX (d : Int) (ms : List TokM) (w : World) (v : Value) (w' : World) : Prop :=
  ∃ (es : List EvM) (q : Option Addr) (c : Nat) (fl : List Fi) (fq : Option Addr) (fc : Nat), v = .tuple #[.slice q es.length c, .slice fq fl.length fc, int (allC d (toks ms))] ∧ (allC d (toks ms) ≠ 0 → es = [] ∧ fl = []) ∧ (allC d (toks ms) = 0 → evs es = allE d.toNat (toks ms) ∧ fl = allF d.toNat (toks ms)) ∧
    Sep w w' [pRow 4 q es.length c (es.flatMap EvM.cells), pMany (es.map EvM.row), pRow 5 fq fl.length fc (fl.flatMap Fi.cells)]
theorem nilX (w w' : World) (hF : Frm w w') : Sep w w' [pRow 4 none ([] : List EvM).length 0 (([] : List EvM).flatMap EvM.cells), pMany (([] : List EvM).map EvM.row), pRow 5 none ([] : List Fi).length 0 (([] : List Fi).flatMap Fi.cells)] :=
  (((((Sep.start w).grow hF).nilRow 5).zero).nilRow 4)
theorem allC_good {d : Int} (h : ¬ (d < 1 ∨ 512 < d)) (l : List Tok) : allC d l = if l.all mayR then 0 else 70 := if_neg h
theorem bAllX_ok (d : Int) (ms : List TokM) (p : Option Addr) (c : Nat) (hn : ms.length ≤ 2097152) (hs : ∀ m ∈ ms, m.t.small) (w0 w : World) (hA : Asc w) (hT : Toks w p ms) : CallsR Tryz.prog 6 #[int d, .slice p ms.length c] w (AllX d ms w) := by
  by_cases h : d < 1 ∨ 512 < d
  · refine CallsR.mono (bAllBad_ok d h _ w) ?_
    rintro v w' ⟨rfl, hF⟩
    have e : allC d (toks ms) = 1 := if_pos h
    refine ⟨[], none, 0, [], none, 0, ?_, fun _ => ⟨rfl, rfl⟩, fun h => ?_, nilX w w' hF⟩
    · rw [e]; rfl
    · rw [e] at h; exact absurd h (by decide)
  · have hd : d = ((d.toNat : Nat) : Int) := by omega
    have hk : 1 ≤ d.toNat ∧ d.toNat ≤ 512 := by omega
    have hg := allC_good h (toks ms)
    have hm := bAll_ok d.toNat hk ms p c hn hs w w [] hA hT (Sep.start w)
    rw [← hd] at hm
    refine CallsR.mono hm ?_
    rintro v w' ⟨h1, h2⟩
    cases hal : (toks ms).all mayR with
    | false =>
      rw [hal, if_neg Bool.noConfusion] at hg
      obtain ⟨rfl, hS⟩ := h1 hal
      refine ⟨[], none, 0, [], none, 0, ?_, fun _ => ⟨rfl, rfl⟩, fun h => ?_, nilX w w' hS.frm⟩
      · rw [hg]; rfl
      · rw [hg] at h; exact absurd h (by decide)
    | true =>
      rw [hal, if_pos rfl] at hg
      obtain ⟨es, q, c, fq, fc, rfl, hev, hS⟩ := h2 hal
      exact ⟨es, q, c, allF d.toNat (toks ms), fq, fc, by rw [hg], fun h => absurd hg h, fun _ => ⟨hev, rfl⟩, hS⟩
end Go.Proofs.YtmnnffenijjpcaaGreatDoor

/-
  Package sieveref16: Right, of a right stack.
-/
set_option linter.unusedSimpArgs false
set_option linter.unusedVariables false
set_option linter.unnecessarySimpa false
namespace Go.Proofs.YtmnnffenijjpcaaGreatDoor
open Go Go.Sv Go.RowKit

theorem take_snocN {s : List Nm} {i : Nat} {x : Nm} (h : s[i]? = some x) : s.take (i + 1) = s.take i ++ [x] := by rw [List.take_add_one, h]; rfl
set_option maxHeartbeats 4000000 in
theorem refRight_ok (s : List Nm) (q : Option Addr) (c : Nat) (hr : rightR s = true) (hcc : s.length ≤ c) (hl : s.length ≤ 4194304) (w : World) (hi : Im [] w q (strs s)) :
    PureC Tryz.prog 13 #[.slice q s.length c] w (.bool true) := by
  have hF : Frm w w := Frm.refl w
  have hsl := strs_len s
  refine enter (l := [.slice q s.length c]) Tryz.func13 rfl Tryz.ntmps13 (by kernel_rfl) rfl ?_
  refine sgo ?_
  refine wcloop (X := Nat) (fun i => [(0, .slice q s.length c), (7, .slice q s.length c), (8, int s.length), (9, int i)]) (fun i wr => i ≤ s.length ∧ Frm w wr) (fun i => s.length - i) 0 ⟨rfl, rfl, rfl, rfl, trivial⟩ ⟨Nat.zero_le _, hF⟩ ?_
  clear hF
  rintro i wr ρ ⟨hil, hF⟩
  have hIr := hi.frm hF
  refine sgo ?_
  (show WC _ _ _ _ _ _ _; first | refine WC_dec rfl (fun hc => ?_) (fun hc => ?_) | refine WC_cond rfl (fun hc => ?_) (fun hc => ?_))
  · have hlt : i < s.length := by omega
    clear hc
    have hx0 : s[i]? = some s[i] := List.getElem?_eq_getElem hlt
    have htk := take_snocN hx0
    have hrt := right_take hr (i + 1)
    have harea : s[i] = nTextarea → ¬ (i < s.length - 1) := by
      intro ht hlt2
      have hy0 : s[i + 1]? = some s[i + 1] := List.getElem?_eq_getElem (by omega)
      have h2 := right_take hr (i + 1 + 1)
      rw [take_snocN hy0] at h2
      have := (right_iff.1 h2).2.2.2.area
      rw [htk, topR_snoc] at this
      exact this ht
    generalize s[i] = x at *
    rw [htk] at hrt
    obtain ⟨h1, h2, h3, h4⟩ := right_iff.1 hrt
    have hx := strs_at hx0
    have hqs : ∃ a, q = some a := hi.some (by omega)
    have hit : Im [] w q (strs (s.take i)) := take_succ_strs hi i
    have htl : (s.take i).length = i := by rw [List.length_take]; omega
    have hask : refAskR (s.take i) x = (s.take i, []) := by rw [refAsk_eq h1]; exact still_of h4
    have hasks := fun w' (hf : Frm w w') => refAsks_ok (s.take i) q c x (by omega) (by omega) w' (hit.frm hf)
    rw [hask, htl] at hasks
    have hal := fun w' => refAllowed_ok x w'
    rw [h2] at hal
    have hvd := fun w' => refInV_ok x w'
    rw [h3] at hvd
    refine sgo ?_
    refine wlpure (hal _) fun w2 hf2 => ?_
    refine sgo ?_
    refine wlcallgp (vals := [str x, int (0 : Nat)]) (fun _ => hvd _) (fun w3 hf3 => ?_) (ha := fun hgd => Go.Sv.am2 (evG hgd) rfl)
    replace hF := hF.trans (hf2.trans hf3)
    refine sgo ?_
    refine wcno ?_ (ht := by
      by_cases ht : x = nTextarea
      · have := harea ht
        have h5 : decide ((i : Int) < (s.length : Int) - 1) = false := decide_eq_false (by omega)
        simp [pkb, h5]
      · have h5 : decide (x = [116, 101, 120, 116, 97, 114, 101, 97]) = false := decide_eq_false ht
        simp [pkb, h5])
    refine sgo ?_
    refine wlcall (hasks _ hF) ?_
    rintro _ w4 ⟨q4, c4, rfl, hF4, hI4, -⟩
    replace hF := hF.trans hF4
    dsimp only
    rw [htl]
    refine sgo ?_
    refine wcno ?_ (ht := by simp [pkb])
    refine sgo ?_
    exact ⟨i + 1, ⟨rfl, rfl, rfl, rfl, trivial⟩, ⟨hlt, hF⟩, by omega⟩
  · refine sgo ?_
    (first | refine fp1 (.inl rfl) rfl rfl ?_ | refine fp2 (.inl rfl) rfl rfl rfl ?_ | refine fp3 (.inl rfl) rfl rfl rfl rfl ?_ | refine fp0 (.inr rfl) rfl ?_ | refine fp0 (.inl rfl) rfl ?_ | refine fp1 (.inr rfl) rfl rfl ?_); refine ⟨?_, by (first | exact Frm.refl _ | assumption | exact Go.Sv.Sep.frm (by assumption) | (refine Frm.trans ?_ (by assumption); first | exact Frm.refl _ | assumption))⟩; (try simp only [realB, rv_true, Nat.reduceBEq, cond_true, cond_false, entG, real_lif, updGL])
end Go.Proofs.YtmnnffenijjpcaaGreatDoor

/-
  sievelaw17: token; the events of any tokens, one by one.
-/
set_option linter.unusedSimpArgs false
set_option linter.unusedVariables false
set_option linter.unnecessarySimpa false
namespace Go.Proofs.YtmnnffenijjpcaaGreatDoor
open Go Go.Sv Go.RowKit

/-- an event as a token, in memory -/
def evTokM (m : EvM) : TokM := if m.e.kind = 0 ∨ m.e.kind = 2 then ⟨evTok m.e, none, 0⟩ else ⟨evTok m.e, m.p, m.c⟩
theorem evTokM_t (m : EvM) : (evTokM m).t = evTok m.e := by unfold evTokM; split <;> rfl
theorem evTokM_toks (ms : List EvM) : toks (ms.map evTokM) = (evs ms).map evTok := by
  unfold toks evs
  rw [List.map_map, List.map_map]
  exact List.map_congr_left fun m _ => evTokM_t m
theorem evTokM_im {w : World} {m : EvM} (h : Im [] w m.p (m.e.attrs.flatMap At.cells)) : Im [] w (evTokM m).p ((evTokM m).t.attrs.flatMap At.cells) := by
  unfold evTokM
  by_cases h0 : m.e.kind = 0
  · rw [if_pos (.inl h0)]
    unfold evTok
    rw [if_pos h0]; exact Im.nil _ _ _
  by_cases h2 : m.e.kind = 2
  · rw [if_pos (.inr h2)]
    unfold evTok
    rw [if_neg h0, if_pos h2]; exact Im.nil _ _ _
  · rw [if_neg (by rintro (h | h); exact h0 h; exact h2 h)]
    unfold evTok
    rw [if_neg h0, if_neg h2]; exact h
set_option maxHeartbeats 2000000 in
theorem token17_ok (m : EvM) (w : World) : PureC Tryz.prog 12 #[.agg ⟨m.cells⟩] w (.agg ⟨(evTokM m).cells⟩) := by
  obtain ⟨⟨kd, nm, tx, es⟩, mp, mc⟩ := m
  have hS := Sep.start w
  refine enter (l := [.agg ⟨EvM.cells ⟨⟨kd, nm, tx, es⟩, mp, mc⟩⟩]) Tryz.func12 rfl Tryz.ntmps12 (by kernel_rfl) rfl ?_
  refine WC_seq ?_
  refine WC_region ?_
  refine sbox (v := .agg ⟨EvM.cells ⟨⟨kd, nm, tx, es⟩, mp, mc⟩⟩) hS fun b1 w1 hS => ?_
  refine salloc hS fun b2 w2 hS => ?_
  replace hS : Sep w w2 [pOwn b2 [int 0, str [], str [], .slice none 0 0, .bool false, int 0, int 0, int 0], pOwn b1 [int kd, str nm, str tx, .slice mp es.length mc]] := hS
  refine sgo ?_
  unfold evTokM evTok
  dsimp only
  by_cases h0 : kd = 0
  · rw [if_pos (.inl h0), if_pos h0]
    refine wcyes ?_ (ht := decide_eq_true h0)
    refine sgo ?_
    refine wlpure (text17_ok tx _) fun w3 hf3 => ?_
    replace hS := hS.grow hf3
    refine sgo ?_
    refine ssta (vs := [int 0, str [], str tx, .slice none 0 0, .bool false, int 0, int 0, int 0]) hS 0 fun w4 hS => ?_
    refine sgo ?_
    exact fpc (.inl rfl) rfl rfl rfl (hS.own 0 rfl) ⟨rfl, hS.frm⟩
  rw [if_neg h0]
  refine wcno ?_ (ht := decide_eq_false h0)
  refine sgo ?_
  by_cases h2 : kd = 2
  · rw [if_pos (.inr h2), if_pos h2]
    refine wcyes ?_ (ht := decide_eq_true h2)
    refine sgo ?_
    refine wlpure (end17_ok nm _) fun w3 hf3 => ?_
    replace hS := hS.grow hf3
    refine sgo ?_
    refine ssta (vs := [int 2, str nm, str [], .slice none 0 0, .bool false, int 0, int 0, int 0]) hS 0 fun w4 hS => ?_
    refine sgo ?_
    exact fpc (.inl rfl) rfl rfl rfl (hS.own 0 rfl) ⟨rfl, hS.frm⟩
  rw [if_neg (by rintro (h | h); exact h0 h; exact h2 h), if_neg h2]
  refine wcno ?_ (ht := decide_eq_false h2)
  refine sgo ?_
  refine wlbuild (cells := [int 1, str nm, str [], .slice mp es.length mc, .bool false, int 0, int 0, int 0]) ?_
  refine ssta (vs := [int 1, str nm, str [], .slice mp es.length mc, .bool false, int 0, int 0, int 0]) hS 0 fun w4 hS => ?_
  refine sgo ?_
  exact fpc (.inl rfl) rfl rfl rfl (hS.own 0 rfl) ⟨rfl, hS.frm⟩
/-! ## event by event -/
def posI (l : List Ev) (i : Nat) : Pos := (l.take i).foldl nextE ([], false)
theorem posI_succ {l : List Ev} {i : Nat} {e : Ev} (h : l[i]? = some e) : posI l (i + 1) = nextE (posI l i) e := by
  unfold posI
  rw [List.take_add_one, h, List.foldl_append]; rfl
theorem good_end {depth : Nat} {x y : Pos} {l : List Ev} (h : GoodL depth x l y) : y = l.foldl nextE x := by
  induction h with
  | nil => rfl
  | cons _ _ ih => rw [ih]; rfl
theorem good_atF {depth : Nat} {x y : Pos} {l : List Ev} (h : GoodL depth x l y) : PosR depth x → ∀ i e, l[i]? = some e → GoodE depth ((l.take i).foldl nextE x) e ∧ PosR depth ((l.take i).foldl nextE x) := by
  induction h with
  | nil => intro _ i e he; simp at he
  | cons h1 h2 ih =>
    intro hx i e he
    cases i with
    | zero =>
      simp only [List.getElem?_cons_zero, Option.some.injEq] at he
      subst he
      exact ⟨h1, hx⟩
    | succ i =>
      exact ih (next_right h1 hx) i e (by simpa using he)
theorem good_at {depth : Nat} {y : Pos} {l : List Ev} (h : GoodL depth ([], false) l y) {i : Nat} {e : Ev} (he : l[i]? = some e) : GoodE depth (posI l i) e ∧ PosR depth (posI l i) := good_atF h (pos0 depth) i e he
theorem wts_len (ms : List TokM) : 8 * ms.length ≤ wts ms := by
  unfold wts
  induction ms with
  | nil => exact Nat.le_refl _
  | cons m l ih =>
    simp only [List.length_cons, List.map_cons, List.sum_cons]
    have : 8 ≤ m.t.wt := by unfold Tok.wt; omega
    omega
end Go.Proofs.YtmnnffenijjpcaaGreatDoor

/-
  sievelaw17: BalanceNested.
-/
set_option linter.unusedSimpArgs false
set_option linter.unusedVariables false
set_option linter.unnecessarySimpa false
namespace Go.Proofs.YtmnnffenijjpcaaGreatDoor
open Go Go.Sv Go.RowKit

theorem tok_flat (ns : List TokM) (m : TokM) : ns.flatMap TokM.cells ++ m.cells = (ns ++ [m]).flatMap TokM.cells := by simp
theorem tok_one (m : TokM) : ∀ u ∈ m.cells, u.oneCell' = true := by simp [TokM.cells, Tok.cells, Value.oneCell']
/-- what the law's walk asks of an event, and what is open behind it -/
structure NestF (k : Nat) (x : Pos) (e : Ev) : Prop where
  area : (decide (topR x.1 = nTextarea) && (decide (e.kind = 1) || decide (e.kind = 3))) = false
  void : e.kind = 3 → x.1.length < k
  top : e.kind = 2 → topR x.1 = e.name ∧ x.1 ≠ []
  text : e.kind = 0 → e.text ≠ [] ∧ (x.2 = true → e.text.head? ≠ some 10)
  len : (nextE x e).1.length ≤ k
  right : rightR (nextE x e).1 = true
theorem nestF_of {k : Nat} {x : Pos} {e : Ev} (h : GoodE k x e) (hx : PosR k x) : NestF k x e := by
  have hn := next_right h hx
  cases h with
  | @opens o f n es h1 h2 h3 h4 _ =>
    exact ⟨by rw [decide_eq_false (show ¬ topR o = nTextarea from h3.area)]; rfl, fun h => absurd (show (1 : Int) = 3 from h) (by decide), fun h => absurd (show (1 : Int) = 2 from h) (by decide), fun h => absurd (show (1 : Int) = 0 from h) (by decide), hn.2, hn.1⟩
  | @voids o f n es h1 h2 h3 h4 _ =>
    exact ⟨by rw [decide_eq_false (show ¬ topR o = nTextarea from h3.area)]; rfl, fun _ => h4, fun h => absurd (show (3 : Int) = 2 from h) (by decide), fun h => absurd (show (3 : Int) = 0 from h) (by decide), hn.2, hn.1⟩
  | @closes o f n h1 =>
    exact ⟨by rw [show (decide ((closeE n).kind = 1) || decide ((closeE n).kind = 3)) = false from rfl, Bool.and_false], fun h => absurd (show (2 : Int) = 3 from h) (by decide), fun _ => ⟨topR_snoc o n, by simp⟩, fun h => absurd (show (2 : Int) = 0 from h) (by decide), hn.2, hn.1⟩
  | @texts o f y h1 h2 h3 _ _ _ =>
    exact ⟨by rw [show (decide ((txE y).kind = 1) || decide ((txE y).kind = 3)) = false from rfl, Bool.and_false], fun h => absurd (show (0 : Int) = 3 from h) (by decide), fun h => absurd (show (0 : Int) = 2 from h) (by decide), fun _ => ⟨h1, h3⟩, hn.2, hn.1⟩
theorem good_kind {k : Nat} {x : Pos} {e : Ev} (h : GoodE k x e) : e.kind = 0 ∨ e.kind = 1 ∨ e.kind = 2 ∨ e.kind = 3 := by
  cases h with
  | opens => exact .inr (.inl rfl)
  | voids => exact .inr (.inr (.inr rfl))
  | closes => exact .inr (.inr (.inl rfl))
  | texts => exact .inl rfl
set_option maxHeartbeats 16000000 in
theorem balanceNested_ok (d : Int) (ms : List TokM) (p : Option Addr) (c : Nat) (hw : wts ms ≤ 1048576) (w : World) (hA : Asc w) (hT : Toks w p ms) : PureC Tryz.prog 4 #[int d, .slice p ms.length c] w (.bool true) := by
  have hn8 := wts_len ms
  have hs : ∀ m ∈ ms, m.t.small := fun m hm => small_of_wt (Nat.le_trans (sum_mem (fun m : TokM => m.t.wt) ms hm) hw)
  have hn : ms.length ≤ 131072 := by omega
  clear hw hn8
  refine enter (l := [int d, .slice p ms.length c]) Tryz.func4 rfl Tryz.ntmps4 (by kernel_rfl) rfl ?_
  refine sgo ?_
  refine wlcall (bAllX_ok d ms p c (by omega) hs w _ hA hT) ?_
  rintro _ w1 ⟨es, q, cc, fl, fq, fc, rfl, hbad, hgood, hS⟩
  refine sgo ?_
  by_cases h0 : allC d (toks ms) = 0
  rotate_left
  · obtain ⟨rfl, rfl⟩ := hbad h0
    have hF3 := hS.frm
    clear hgood hbad
    refine wcyes ?_ (ht := by simpa using h0)
    refine sgo ?_
    refine wlcallgp (vals := []) (fun _ => lives17_ok _ (hA.frm hF3)) (fun w6 hf6 => ?_) (ha := fun _ => rfl)
    have hF6 := hF3.trans hf6
    refine sgo ?_
    (first | refine fp1 (.inl rfl) rfl rfl ?_ | refine fp2 (.inl rfl) rfl rfl rfl ?_ | refine fp3 (.inl rfl) rfl rfl rfl rfl ?_ | refine fp0 (.inr rfl) rfl ?_ | refine fp0 (.inl rfl) rfl ?_ | refine fp1 (.inr rfl) rfl rfl ?_); refine ⟨?_, by (first | exact Frm.refl _ | assumption | exact Go.Sv.Sep.frm (by assumption) | (refine Frm.trans ?_ (by assumption); first | exact Frm.refl _ | assumption))⟩; (try simp only [realB, rv_true, Nat.reduceBEq, cond_true, cond_false, entG, real_lif, updGL])
    simp [pkb]
  obtain ⟨hev, -⟩ := hgood h0
  have hnb : ¬ (d < 1 ∨ 512 < d) := by
    intro h
    have : allC d (toks ms) = 1 := if_pos h
    omega
  have hd : d = ((d.toNat : Nat) : Int) := by omega
  have hk : 1 ≤ d.toNat ∧ d.toNat ≤ 512 := by omega
  have hal : (toks ms).all mayR = true := by
    rw [allC_good hnb] at h0
    cases h : (toks ms).all mayR with
    | true => rfl
    | false => rw [h, if_neg Bool.noConfusion] at h0; cases h0
  obtain ⟨f, hgl⟩ := all_good d.toNat (toks ms) (fun t ht => ⟨List.all_eq_true.1 hal t ht, by
    obtain ⟨m, h1, rfl⟩ := List.mem_map.1 ht
    exact hs m h1⟩)
  have hel : es.length ≤ 14 * ms.length := by rw [← evs_len, hev, ← toks_len]; exact all_len _ _
  rw [h0]
  rw [← hev] at hgl
  clear hbad hgood hal hev h0 hnb hs hT
  generalize d.toNat = k at *
  subst hd
  replace hS : Sep w w1 [pRow 4 q es.length cc (es.flatMap EvM.cells), pMany (es.map EvM.row)] := hS.sel 3 [0, 1]
  have hagain := all_again hgl
  have hmays := mays_again hgl
  have hsmall := goods_small hgl
  have hend := good_end hgl
  have hat : ∀ i m, es[i]? = some m → posI (evs es) (i + 1) = nextE (posI (evs es) i) m.e ∧ GoodE k (posI (evs es) i) m.e ∧ PosR k (posI (evs es) i) := by
    intro i m h
    have he : (evs es)[i]? = some m.e := by unfold evs; rw [List.getElem?_map, h]; rfl
    exact ⟨posI_succ he, good_at hgl he⟩
  have hpe : posI (evs es) es.length = ([], f) := by
    unfold posI
    rw [List.take_of_length_le (by rw [evs_len]; exact Nat.le_refl _)]
    exact hend.symm
  clear hend hgl
  have hfl := fm_len EvM.len es
  refine sgo ?_
  refine wcloop (X := Nat × Option Addr × Nat × Option Addr × Nat) (fun x => [(0, int k), (5, .slice q es.length cc), (8, .slice x.2.1 (posI (evs es) x.1).1.length x.2.2.1), (9, .slice x.2.2.2.1 x.1 x.2.2.2.2), (10, .bool (posI (evs es) x.1).2), (31, .slice q es.length cc), (32, int es.length), (33, int x.1)])
    (fun x wr => x.1 ≤ es.length ∧ Sep w wr [pRow 4 q es.length cc (es.flatMap EvM.cells), pMany (es.map EvM.row), pRow 1 x.2.1 (posI (evs es) x.1).1.length x.2.2.1 (strs (posI (evs es) x.1).1), pRow 8 x.2.2.2.1 x.1 x.2.2.2.2 (((es.take x.1).map evTokM).flatMap TokM.cells)])
    (fun x => es.length - x.1) (0, none, 0, none, 0) ⟨rfl, rfl, rfl, rfl, rfl, rfl, rfl, rfl, trivial⟩ ⟨Nat.zero_le _, ?_⟩ ?_
  · exact ((hS.nilRow 8).nilRow 1).sel 4 [2, 3, 0, 1]
  repeat clear hS
  rintro ⟨i, qo, co, qa, ca⟩ wr ρ ⟨hil, hS⟩
  dsimp only at hil hS ⊢
  have hIm := hS.im 0 rfl
  refine sgo ?_
  (show WC _ _ _ _ _ _ _; first | refine WC_dec rfl (fun hc => ?_) (fun hc => ?_) | refine WC_cond rfl (fun hc => ?_) (fun hc => ?_))
  · have hlt : i < es.length := by omega
    have hx : es[i]? = some es[i] := List.getElem?_eq_getElem hlt
    obtain ⟨hps1, hge, hpr⟩ := hat i _ hx
    have hnf := nestF_of hge hpr
    have hkd := good_kind hge
    have hseg := fm_seg EvM.len es hx
    have hps : ∃ a, q = some a := hIm.some (by omega)
    have htk : es.take (i + 1) = es.take i ++ [es[i]] := by rw [List.take_add_one, hx]; rfl
    have htok := fun w' => token17_ok es[i] w'
    clear hat hagain hmays hsmall hpe hge
    generalize es[i] = m at *
    clear hc hx
    generalize posI (evs es) i = x at *
    obtain ⟨o, fr⟩ := x
    obtain ⟨⟨kd, nm, tx, at_⟩, mp, mc⟩ := m
    obtain ⟨n1, n2, n3, n4, n5, n6⟩ := hnf
    dsimp only at n1 n2 n3 n4 hkd hpr hS ⊢
    have hol : o.length ≤ 512 := Nat.le_trans hpr.2 hk.2
    clear hpr
    have hso := strs_len o
    refine sgo ?_
    rw [hseg]
    refine salloc hS fun b12 w2 hS => ?_
    refine sgo ?_
    refine ssta (vs := [int kd, str nm, str tx, .slice mp at_.length mc]) hS 0 fun w3 hS => ?_
    replace hS : Sep w w3 [pOwn b12 [int kd, str nm, str tx, .slice mp at_.length mc], pRow 4 q es.length cc (es.flatMap EvM.cells), pMany (es.map EvM.row), pRow 1 qo o.length co (strs o), pRow 8 qa i ca (((es.take i).map evTokM).flatMap TokM.cells)] := hS
    refine sgo ?_
    refine wlpure (htok _) fun w4 hf4 => ?_
    replace hS := hS.grow hf4
    refine sgo ?_
    refine sb1a (vs := (evTokM ⟨⟨kd, nm, tx, at_⟩, mp, mc⟩).cells) hS fun b5 w5 hS => ?_
    refine sgo ?_
    refine sapp hS 5 (hS.own 0 rfl).sg (fun qa2 ca2 w6 hS => ?_) (h1 := tok_one _)
    rw [tok_flat] at hS
    replace hS : Sep w w6 [pOwn b12 [int kd, str nm, str tx, .slice mp at_.length mc], pRow 4 q es.length cc (es.flatMap EvM.cells), pMany (es.map EvM.row), pRow 1 qo o.length co (strs o), pRow 8 qa2 (i + 1) ca2 (((es.take i).map evTokM ++ [evTokM ⟨⟨kd, nm, tx, at_⟩, mp, mc⟩]).flatMap TokM.cells)] := hS.tail
    clear htok hIm hseg
    generalize hTF : ((es.take i).map evTokM ++ [evTokM ⟨⟨kd, nm, tx, at_⟩, mp, mc⟩]).flatMap TokM.cells = TF at *
    refine sgo ?_
    refine wcutt (X := Unit) (fun _ => [(0, int k), (5, .slice q es.length cc), (8, .slice qo o.length co), (9, .slice qa2 (i + 1) ca2), (10, .bool fr), (12, ptrAt (pb b12) 0), (13, str (topR o)), (31, .slice q es.length cc), (32, int es.length), (33, int i)])
      (fun _ wr => Sep w wr [pOwn b12 [int kd, str nm, str tx, .slice mp at_.length mc], pRow 4 q es.length cc (es.flatMap EvM.cells), pMany (es.map EvM.row), pRow 1 qo o.length co (strs o), pRow 8 qa2 (i + 1) ca2 TF]) ?_ ?_
    · by_cases ho : o = []
      · subst ho
        refine sgo ?_
        exact ⟨(), ⟨rfl, rfl, rfl, rfl, rfl, rfl, rfl, rfl, rfl, rfl, trivial⟩, hS⟩
      · have hpos : 0 < o.length := List.length_pos_iff.2 ho
        have hx2 : o[o.length - 1]? = some (topR o) := by
          unfold topR
          rw [List.getLast?_eq_getElem?, List.getElem?_eq_getElem (by omega)]
          rfl
        have hxv := strs_at hx2
        have hqs : ∃ a, qo = some a := (hS.row 3 rfl).sg.some (by omega)
        have i1 : ((o.length : Int) - 1) = ((o.length - 1 : Nat) : Int) := by omega
        refine wcyes ?_ (ht := decide_eq_true (by omega))
        refine sgo ?_
        rw [i1]
        refine sgo ?_
        exact ⟨(), ⟨rfl, rfl, rfl, rfl, rfl, rfl, rfl, rfl, rfl, rfl, trivial⟩, hS⟩
    repeat clear hS
    rintro _ w7 ρ7 hS
    refine sgo ?_
    generalize hnx : nextE (o, fr) ⟨kd, nm, tx, at_⟩ = nx at *
    refine wcutj (X := Option Addr × Nat) (fun x => [(0, int k), (5, .slice q es.length cc), (8, .slice x.1 nx.1.length x.2), (9, .slice qa2 (i + 1) ca2), (10, .bool fr), (12, ptrAt (pb b12) 0), (13, str (topR o)), (31, .slice q es.length cc), (32, int es.length), (33, int i)])
      (fun x wr => Sep w wr [pOwn b12 [int kd, str nm, str tx, .slice mp at_.length mc], pRow 4 q es.length cc (es.flatMap EvM.cells), pMany (es.map EvM.row), pRow 1 x.1 nx.1.length x.2 (strs nx.1), pRow 8 qa2 (i + 1) ca2 TF]) ?_ ?_
    · rcases hkd with rfl | rfl | rfl | rfl
      · obtain ⟨t1, t2⟩ := n4 rfl
        have e : nx.1 = o := by rw [← hnx]; rfl
        rw [e]
        have hte : decide (tx = []) = false := decide_eq_false t1
        have htp : 0 < tx.length := List.length_pos_iff.2 t1
        have hcd : pkb (decide (tx = [])) true (pkb fr (decide ((((tx[0]?.getD 0).toNat : Nat) : Int) = 10)) false) = false := by
          rw [hte, pkb_or, pkb_and, Bool.false_or]
          cases hfr : fr with
          | false => rfl
          | true =>
            rw [Bool.true_and]
            refine decide_eq_false fun h => t2 hfr ?_
            rw [List.head?_eq_getElem?]
            cases hh : tx[0]? with
            | none => rw [List.getElem?_eq_none_iff] at hh; omega
            | some y =>
              rw [hh] at h
              congr 1
              apply UInt8.toNat.inj
              rw [show ((10 : UInt8)).toNat = 10 from rfl]
              have : ((y.toNat : Nat) : Int) = 10 := h
              omega
        refine sgo ?_
        refine wcno ?_ (ht := by first | exact hcd | (simp only [Int.toNat_zero]; exact hcd) | (revert hcd; simp [pkb]))
        refine sgo ?_
        exact ⟨(qo, co), ⟨rfl, rfl, rfl, rfl, rfl, rfl, rfl, rfl, rfl, rfl, trivial⟩, hS⟩
      · have e : nx.1 = o ++ [nm] := by rw [← hnx]; rfl
        rw [e]
        refine sgo ?_
        refine sb1s hS fun b8 w8 hS => ?_
        refine sgo ?_
        refine sapp hS 4 (hS.own 0 rfl).sg (fun q9 c9 w9 hS => ?_)
        rw [strs_snoc, show o.length + 1 = (o ++ [nm]).length by simp] at hS
        rw [show o.length + 1 = (o ++ [nm]).length by simp]
        refine sgo ?_
        exact ⟨(q9, c9), ⟨rfl, rfl, rfl, rfl, rfl, rfl, rfl, rfl, rfl, rfl, trivial⟩, hS.tail⟩
      · obtain ⟨t1, t2⟩ := n3 rfl
        have e : nx.1 = o.dropLast := by rw [← hnx]; rfl
        rw [e]
        have hpos : 0 < o.length := List.length_pos_iff.2 t2
        have hle := (hS.row 3 rfl).le_cap
        have i1 : ((o.length : Int) - 1) = ((o.length - 1 : Nat) : Int) := by omega
        refine sgo ?_
        refine wcno ?_ (ht := by rw [t1]; simp)
        refine sgo ?_
        rw [i1]
        refine sgo ?_
        refine ⟨(qo, co), ⟨rfl, rfl, by rw [List.length_dropLast]; rfl, rfl, rfl, rfl, rfl, rfl, rfl, rfl, trivial⟩, ?_⟩
        refine Sep.turn (c := pRow 1 qo o.length co (strs o)) (c' := pRow 1 qo o.dropLast.length co (strs o.dropLast)) hS 3 rfl (fun h => ?_) (fun x hx => hx)
        have := Row.take h (j := o.dropLast.length) (by simp)
        rw [Nat.mul_one] at this
        have e : (strs o).take o.dropLast.length = strs o.dropLast := by rw [strs, strs, ← List.map_take, List.length_dropLast, List.dropLast_eq_take]
        rw [e] at this
        exact this
      · have t1 := n2 rfl
        have e : nx.1 = o := by rw [← hnx]; rfl
        rw [e]
        refine sgo ?_
        refine wcno ?_ (ht := decide_eq_false (by omega))
        refine sgo ?_
        exact ⟨(qo, co), ⟨rfl, rfl, rfl, rfl, rfl, rfl, rfl, rfl, rfl, rfl, trivial⟩, hS⟩
    repeat clear hS
    rintro ⟨q9, c9⟩ w9 ρ9 hS
    dsimp only at hS ⊢
    have hcap := (hS.row 3 rfl).le_cap
    have hlk : nx.1.length ≤ 512 := Nat.le_trans n5 hk.2
    have hright := fun w' (hf : Frm w9 w') => refRight_ok nx.1 q9 c9 n6 hcap.1 (by omega) w' ((hS.im 3 rfl).frm hf)
    refine sgo ?_
    refine wlcallgp (vals := [.slice q9 nx.1.length c9]) (fun _ => hright _ (Frm.refl _)) (fun w10 hf10 => ?_) (ha := fun hgd => Go.Sv.am1 (evG hgd))
    replace hS := hS.grow hf10
    refine sgo ?_
    have hn5 : decide ((k : Int) < (nx.1.length : Int)) = false := decide_eq_false (by omega)
    refine wcno ?_ (ht := by
      have n1' : (decide (topR o = [116, 101, 120, 116, 97, 114, 101, 97]) && (decide (kd = 1) || decide (kd = 3))) = false := n1
      rw [hn5]
      simp only [pkb_or, pkb_and, n1', Bool.not_true, Bool.or_false]
      rfl)
    refine sgo ?_
    have hfr : pkb (decide (kd = 1)) (pkb (decide (nm = [112, 114, 101])) true (decide (nm = [116, 101, 120, 116, 97, 114, 101, 97]))) false = nx.2 := by
      rw [← hnx, pkb_or, pkb_and]
      unfold nextE
      dsimp only
      by_cases h1 : kd = 1
      · rw [if_pos h1, decide_eq_true h1, Bool.true_and]; rfl
      · rw [if_neg h1, decide_eq_false h1, Bool.false_and]
        split <;> rfl
    refine ⟨(i + 1, q9, c9, qa2, ca2), ⟨rfl, rfl, ?_, rfl, ?_, rfl, rfl, rfl, trivial⟩, ⟨hlt, ?_⟩, (by (try dsimp only); omega)⟩
    · dsimp only; rw [hps1]; rfl
    · dsimp only; rw [hps1, ← hfr]; rfl
    · dsimp only
      rw [hps1, htk, List.map_append]
      rw [← hTF] at hS
      exact hS.sel 5 [1, 2, 3, 4]
  · obtain rfl : i = es.length := by omega
    rw [hpe, List.take_length] at hS
    rw [hpe]
    clear hat hIm
    dsimp only at hS ⊢
    have htw : toks (es.map evTokM) = (evs es).map evTok := evTokM_toks es
    have hTk : Toks wr qa (es.map evTokM) := ⟨hS.im 3 rfl, fun m hm => by
      obtain ⟨m0, h1, rfl⟩ := List.mem_map.1 hm
      exact evTokM_im (RowD.im (hS.many 1 rfl m0.row (List.mem_map_of_mem h1)))⟩
    have hsm2 : ∀ m ∈ es.map evTokM, m.t.small := by
      intro m hm
      obtain ⟨m0, h1, rfl⟩ := List.mem_map.1 hm
      rw [evTokM_t]
      exact (hsmall m0.e (List.mem_map_of_mem h1)).2
    have hc0 : allC k (toks (es.map evTokM)) = 0 := by
      rw [htw]
      unfold allC
      rw [if_neg (by omega), if_pos (List.all_eq_true.2 fun t ht => hmays t ht)]
    have hall2 := bAllX_ok k (es.map evTokM) qa ca (by rw [List.length_map]; omega) hsm2 w wr (hA.frm hS.frm) hTk
    rw [List.length_map] at hall2
    have hsa : ∀ m ∈ es, m.e.attrs.length ≤ 1048576 := fun m hm => (hsmall m.e (List.mem_map_of_mem hm)).1.attrs
    have hF1 := hS.frm
    have hE1 : Evs wr q es := Sep.evs hS 0 1 rfl rfl
    repeat clear hS
    clear hTk hsm2 hsmall hmays
    refine sgo ?_
    refine wlcall hall2 ?_
    rintro _ w3 ⟨es2, q2, c2, fl2, fq2, fc2, rfl, -, hgood2, hS2⟩
    obtain ⟨hev2, hfl2⟩ := hgood2 hc0
    rw [hc0]
    rw [htw, show ((k : Int)).toNat = k from Int.toNat_natCast k] at hev2 hfl2
    rw [hagain.1] at hev2
    rw [hagain.2] at hfl2
    subst hfl2
    clear hgood2 hall2 hagain htw hc0
    have hel2 : es2.length = es.length := by rw [← evs_len, hev2, evs_len]
    have hsa2 : ∀ m ∈ es2, m.e.attrs.length ≤ 1048576 := by
      intro m hm
      have h1 : m.e ∈ evs es := by rw [← hev2]; exact List.mem_map_of_mem hm
      obtain ⟨m0, h2, h3⟩ := List.mem_map.1 h1
      rw [← h3]; exact hsa m0 h2
    have hE2 : Evs w3 q2 es2 := Sep.evs hS2 0 1 rfl rfl
    have hF3 := hF1.trans hS2.frm
    have hE13 := hE1.frm hS2.frm
    dsimp only [List.length_nil]
    refine sgo ?_
    refine wlcallgp (vals := [.slice q2 es2.length c2, .slice q es.length cc]) (fun _ => same17_ok es2 es q2 q c2 cc (by omega) hev2 hsa2 w3 hE2 hE13) (fun w4 hf4 => ?_) (ha := fun hgd => Go.Sv.am2 (evG hgd) (evG hgd))
    refine sgo ?_
    refine wlcallgp (vals := []) (fun _ => lives17_ok _ (hA.frm (hF3.trans hf4))) (fun w6 hf6 => ?_) (ha := fun _ => rfl)
    have hF6 := hF3.trans (hf4.trans hf6)
    refine sgo ?_
    (first | refine fp1 (.inl rfl) rfl rfl ?_ | refine fp2 (.inl rfl) rfl rfl rfl ?_ | refine fp3 (.inl rfl) rfl rfl rfl rfl ?_ | refine fp0 (.inr rfl) rfl ?_ | refine fp0 (.inl rfl) rfl ?_ | refine fp1 (.inr rfl) rfl rfl ?_); refine ⟨?_, by (first | exact Frm.refl _ | assumption | exact Go.Sv.Sep.frm (by assumption) | (refine Frm.trans ?_ (by assumption); first | exact Frm.refl _ | assumption))⟩; (try simp only [realB, rv_true, Nat.reduceBEq, cond_true, cond_false, entG, real_lif, updGL])
    simp [pkb]
end Go.Proofs.YtmnnffenijjpcaaGreatDoor

/-
  From a frame to what a row asks behind the call: nothing that was there has turned (new blocks may be frozen).
-/
set_option linter.unusedSimpArgs false
set_option linter.unusedVariables false
set_option linter.unnecessarySimpa false
namespace Go.ChangeShapes
section
variable {H : Type} {enc : TypeId × Value → H} {P : Program}
theorem post_frm {f : Func} {s : ChangeSpec} {apart fresh handsOn again : Bool} {W W' : World} {args : Array Value} {v : Value} {ds gs : List (DataW H)} {before pa pv : List MemPlace}
    (hW : DataW.Whole enc P f.params.toList s.vars apart W args.toList ds gs before)
    (hres : ∀ (b : Nat) (sp : Nat → Bool) (hd : Bool), DataW.TrodAll enc P W' b sp hd f.resultTypes.toList (v.resultList f.resultTypes.size) (s.fn H (ds ++ gs)).results [])
    (hargs : ∀ sp : Nat → Bool, (∀ p ∈ before, sp p.block = true) → DataW.TrodAll enc P W' 0 sp true f.params.toList args.toList (s.fn H (ds ++ gs)).args pa)
    (hvars : ∀ sp : Nat → Bool, (∀ p ∈ before, sp p.block = true) → DataW.TrodVars enc P W' sp s.vars (s.fn H (ds ++ gs)).vars pv)
    (hps : before = pa ++ pv) (hk : Sv.Frm W W')
    (hok : ∀ (j : Nat) (t : TypeId) (r : Value), f.resultTypes[j]? = some t → (v.resultList f.resultTypes.size)[j]? = some r → Value.okWide P W' .any 0 t r) :
    s.post enc P f apart fresh handsOn again W args v W' := by
  have hold : ∀ p ∈ before, (fun b => decide (b < W.heap.size)) p.block = true := fun p hp => by simpa using hW.lt p hp
  refine ⟨ds, gs, before, [], pa, pv, hW, hres _ _ _, hargs _ hold, hvars _ hold, World.keptBut_mono (fun p hp => ⟨hp, ?_⟩) (RowKit.Below.frame hk (· ∈ before)), fun _ => ?_⟩
  · rw [hps, List.mem_append] at hp
    exact Or.inr hp
  · have hlt := hW.lt
    obtain ⟨_, _, _, _, _, hz, hn⟩ := hW
    refine ⟨hok, _, _, ([] ++ pa) ++ pv, ⟨[] ++ pa, pv, trodAll_append (hargs _ (fun _ _ => rfl)) (hres _ _ _), hvars _ (fun _ _ => rfl), rfl, ?_, ?_⟩, ?_⟩
    · intro b off hp
      have hp' : (.cell b off : MemPlace) ∈ before := by rw [hps]; simpa using hp
      rw [RowKit.Below.frozen hk (hlt _ hp')]
      exact hz b off hp'
    · intro ha
      have := hn ha
      rw [hps] at this
      simpa using this
    · intro p hp _
      rw [hps]
      simpa using hp
end
end Go.ChangeShapes

