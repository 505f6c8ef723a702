/-
  Our texts SvDy, SvDz, SvDzB, joined.
-/
import Derived.Test.YtcdogceabkpnmaaDoorMg9
/-
  Chapter 21: Diff, dom's and the document's.
-/
set_option linter.unusedSimpArgs false
set_option linter.unusedVariables false
set_option linter.unnecessarySimpa false
namespace Go.Sv
open Go Go.RowKit
/-- a store into a block of one's own -/
theorem y_sst2 {P : Program} {σ : Env} {w0 w : World} {cs : List Plot} {ty t : TypeId} {pos : String} {af : Array Edge} {g : Option (Nat × Bool)} {x y : Operand} {zv v : Value} {size bytes b j : Nat} {l : List Value} [hi : Inf P t zv size bytes] (hS : Sep w0 w cs) (i : Nat) (hc : cs[i]? = some (pOwn b l)) (hx : evl σ x = ptrAt (pb b) j) (hy : evl σ y = v) (hv : v.cells.size = size) (hk : j + size ≤ l.length) (h1 : ∀ u ∈ v.cells.toList, u.oneCell' = true) :
    ∃ w', Y P σ ⟨none, .store t x y, ty, pos, af, g⟩ w undef w' ∧ Sep w0 w' (cs.set i (pOwn b (l.take j ++ v.cells.toList ++ l.drop (j + size)))) := by
  obtain ⟨w', hr, h2, h3⟩ := run_store_own (P := P) (t := t) (hS.own i hc) hv hk h1
  refine ⟨w', Y.skip ?_, hS.upd i hc (lm_own h3) h2⟩
  simp only [execOp, hx, hy]
  rw [Sem.run_bind, hr]
  rfl
theorem y_salloc2 {P : Program} {σ : Env} {w0 w : World} {cs : List Plot} {ty e : TypeId} {pos : String} {af : Array Edge} {g : Option (Nat × Bool)} {d : Option Tmp} {zv : Value} {size bytes : Nat} [hi : Inf P e zv size bytes] (hS : Sep w0 w cs) :
    ∃ b w', Y P σ ⟨d, .alloc e, ty, pos, af, g⟩ w (ptrAt (pb b) 0) w' ∧ Sep w0 w' (pOwn b zv.cells.toList :: cs) := by
  refine ⟨w.heap.size, w.alloc (.cells zv.cells e), Y.val ?_, hS.push (frm_alloc _ _) (own_alloc _ _ _) (by simp [pOwn])⟩
  simp [execOp, Instr.alloc, Sem.run_bind, run_zeroValue (P := P) (t := e), newVar, newRow]
  rfl
end Go.Sv
namespace Go.Proofs.YtcdogceabkpnmaaDoor
open Go Go.Sv Go.RowKit
/-- the way of the first place where two lists of trees differ -/
def diffF : Fo → Fo → List Nat → Nat → Option (List Nat)
  | .nil, .nil, _, _ => none
  | .nil, .cons .., w, i => some (w ++ [i])
  | .cons .., .nil, w, i => some (w ++ [i])
  | .cons n t es ks r, .cons n2 t2 es2 ks2 r2, w, i => if n = n2 ∧ t = t2 ∧ es = es2 then
      (if n = [] then diffF r r2 w (i + 1) else match diffF ks ks2 (w ++ [i]) 0 with
        | some x => some x
        | none => diffF r r2 w (i + 1)) else some (w ++ [i])
def diffL (l m : List Nd) (w : List Nat) (i : Nat) : Option (List Nat) := diffF (Fo.of l) (Fo.of m) w i
theorem diffL_cons (x y : Nd) (l m : List Nd) (w : List Nat) (i : Nat) : diffL (x :: l) (y :: m) w i = if x.name = y.name ∧ x.text = y.text ∧ x.attrs = y.attrs then
      (if x.name = [] then diffL l m w (i + 1) else match diffF x.kids y.kids (w ++ [i]) 0 with
        | some x => some x
        | none => diffL l m w (i + 1)) else some (w ++ [i]) := by
  unfold diffL; simp only [Fo.of, diffF]
theorem diffL_ne {m m2 : NdM} {l l' : List Nd} {w : List Nat} {i : Nat} (h : ¬ (m.name = m2.name ∧ m.text = m2.text ∧ m.attrs = m2.attrs)) : diffL (m.nd :: l) (m2.nd :: l') w i = some (w ++ [i]) := by
  rw [diffL_cons]; exact if_neg h
theorem diffL_txt {m m2 : NdM} {l l' : List Nd} {w : List Nat} {i : Nat} (h : m.name = m2.name ∧ m.text = m2.text ∧ m.attrs = m2.attrs) (hn : m.name = []) : diffL (m.nd :: l) (m2.nd :: l') w i = diffL l l' w (i + 1) := by
  rw [diffL_cons]; exact (if_pos h).trans (if_pos hn)
theorem diffL_el {m m2 : NdM} {l l' : List Nd} {w : List Nat} {i : Nat} (h : m.name = m2.name ∧ m.text = m2.text ∧ m.attrs = m2.attrs) (hn : ¬ m.name = []) : diffL (m.nd :: l) (m2.nd :: l') w i = match diffF m.kids.fo m2.kids.fo (w ++ [i]) 0 with
    | some x => some x
    | none => diffL l l' w (i + 1) := by
  rw [diffL_cons]; exact (if_pos h).trans (if_neg hn)
def nds (f : FoM) : List Nd := f.list.map NdM.nd
theorem diff_start (f g : FoM) (w : List Nat) : diffF f.fo g.fo w 0 = diffL ((nds f).drop 0) ((nds g).drop 0) w 0 := by
  unfold diffL nds; rw [List.drop_zero, List.drop_zero, ← fo_list, ← fo_list]
theorem nds_drop {f : FoM} {i : Nat} {m : NdM} (h : f.list[i]? = some m) : (nds f).drop i = m.nd :: (nds f).drop (i + 1) := by
  have h1 : (nds f)[i]? = some m.nd := by unfold nds; rw [List.getElem?_map, h]; rfl
  obtain ⟨h2, h3⟩ := List.getElem?_eq_some_iff.1 h1
  rw [List.drop_eq_getElem_cons h2, h3]
theorem nds_len (f : FoM) : (nds f).length = f.len := by unfold nds; rw [List.length_map]; rfl
theorem nds_end {f : FoM} {i : Nat} (h : f.len ≤ i) : (nds f).drop i = [] := List.drop_eq_nil_of_le (by rw [nds_len]; exact h)
theorem diffL_end {f g : FoM} {i : Nat} (w : List Nat) (h : i < f.len ∨ i < g.len) (h2 : f.len ≤ i ∨ g.len ≤ i) : diffL ((nds f).drop i) ((nds g).drop i) w i = some (w ++ [i]) := by
  rcases h2 with h2 | h2
  · have hg : i < g.len := by omega
    rw [nds_end h2, nds_drop (List.getElem?_eq_getElem hg)]; rfl
  · have hf : i < f.len := by omega
    rw [nds_end h2, nds_drop (List.getElem?_eq_getElem hf)]; rfl
def dfP (f g : FoM) (p q : Option Addr) (c dd i : Nat) (m m2 : NdM) : PlanB Unit where
  pl k d := match k with
    | 8 => [pOwn d.b [str [], str [], .slice none 0 0, .slice none 0 0]]
    | 9 => [pOwn d.b [str [], str [], .slice none 0 0, .slice none 0 0]]
    | 10 => [pOwn d.b m.cells]
    | 11 => [pOwn d.b m2.cells]
    | _ => []
  con k := match k with
    | 8 => some 10
    | 9 => some 11
    | _ => none
  base k := match k with
    | _ => []
  fact k a := match k with
    | 0 => (a 0).v = .slice p f.len c
    | 1 => (a 1).v = int i
    | 2 => (a 2).v = ptrAt p (i * 4)
    | 3 => (a 3).v = .agg ⟨((f.list.flatMap NdM.cells).drop (i * 4)).take 4⟩
    | 4 => (a 4).v = .slice q g.len dd
    | 5 => (a 5).v = int i
    | 6 => (a 6).v = ptrAt q (i * 4)
    | 7 => (a 7).v = .agg ⟨((g.list.flatMap NdM.cells).drop (i * 4)).take 4⟩
    | 8 => (a 8).v = ptrAt (pb (a 8).b) 0
    | 9 => (a 9).v = ptrAt (pb (a 9).b) 0
    | 10 => (a 10).b = (a 8).b
    | 11 => (a 11).b = (a 9).b
    | _ => True
def dgP (p q ph : Option Addr) (fl gl c dd ch i : Nat) (wi : List Nat) (m m2 : NdM) (r : Option (List Nat)) : PlanB Unit where
  pl k d := match k with
    | 11 => [pRow 1 d.p (r.getD []).length d.c (ints (r.getD []))]
    | _ => []
  con k := match k with
    | _ => none
  base k := match k with
    | _ => []
  fact k a := match k with
    | 0 => (a 0).v = .slice ph wi.length ch
    | 1 => (a 1).v = .slice p fl c
    | 2 => (a 2).v = int i
    | 3 => (a 3).v = ptrAt p (i * 4)
    | 4 => (a 4).v = ptrAt p (i * 4 + 3)
    | 5 => (a 5).v = .slice m.kp m.kids.len m.kc
    | 6 => (a 6).v = .slice q gl dd
    | 7 => (a 7).v = int i
    | 8 => (a 8).v = ptrAt q (i * 4)
    | 9 => (a 9).v = ptrAt q (i * 4 + 3)
    | 10 => (a 10).v = .slice m2.kp m2.kids.len m2.kc
    | 11 => (a 11).v = .tuple #[.slice (a 11).p (r.getD []).length (a 11).c, .bool r.isSome]
    | 12 => (a 12).v = .tuple #[.slice (a 12).p (r.getD []).length (a 12).c, .bool r.isSome] ∧ (a 12).p = (a 11).p ∧ (a 12).c = (a 11).c
    | 13 => (a 13).v = .slice (a 13).p (r.getD []).length (a 13).c ∧ (a 13).p = (a 12).p ∧ (a 13).c = (a 12).c
    | 14 => (a 14).v = .bool r.isSome
    | 15 => (a 15).v = .slice (a 15).p (r.getD []).length (a 15).c ∧ (a 15).p = (a 13).p ∧ (a 15).c = (a 13).c
    | 16 => (a 16).v = .bool r.isSome
    | _ => True
def rgP (p q ph : Option Addr) (fl gl c dd ch i : Nat) (wi : List Nat) (m m2 : NdM) (r : Option (List Nat)) : PlanB Unit where
  pl k d := match k with
    | 11 => [pRow 1 d.p (r.getD []).length d.c (ints (r.getD []))]
    | _ => []
  con k := match k with
    | _ => none
  base k := match k with
    | _ => []
  fact k a := match k with
    | 0 => (a 0).v = .slice p fl c
    | 1 => (a 1).v = int i
    | 2 => (a 2).v = ptrAt p (i * 4)
    | 3 => (a 3).v = ptrAt p (i * 4 + 3)
    | 4 => (a 4).v = .slice m.kp m.kids.len m.kc
    | 5 => (a 5).v = .slice q gl dd
    | 6 => (a 6).v = int i
    | 7 => (a 7).v = ptrAt q (i * 4)
    | 8 => (a 8).v = ptrAt q (i * 4 + 3)
    | 9 => (a 9).v = .slice m2.kp m2.kids.len m2.kc
    | 10 => (a 10).v = .slice ph wi.length ch
    | 11 => (a 11).v = .tuple #[.slice (a 11).p (r.getD []).length (a 11).c, .bool r.isSome]
    | 12 => (a 12).v = .tuple #[.slice (a 12).p (r.getD []).length (a 12).c, .bool r.isSome] ∧ (a 12).p = (a 11).p ∧ (a 12).c = (a 11).c
    | 13 => (a 13).v = .slice (a 13).p (r.getD []).length (a 13).c ∧ (a 13).p = (a 12).p ∧ (a 13).c = (a 12).c
    | 14 => (a 14).v = .bool r.isSome
    | 15 => (a 15).v = .slice (a 15).p (r.getD []).length (a 15).c ∧ (a 15).p = (a 13).p ∧ (a 15).c = (a 13).c
    | 16 => (a 16).v = .bool r.isSome
    | _ => True
set_option maxHeartbeats 8000000 in
theorem domDiff_ok : ∀ (k : Nat) (f g : FoM) (p q : Option Addr) (c dd : Nat), f.size < k → f.wt ≤ 1048576 → g.wt ≤ 1048576 → ∀ (way : List Nat) (pw : Option Addr) (cw : Nat), way.length + k ≤ 4194304 → ∀ (w0 w : World) (cs : List Plot), Sep w0 w cs → Im [] w pw (ints way) → Tre w p f → Tre w q g →
    CallsR Tryd.prog 56 #[.slice pw way.length cw, .slice p f.len c, .slice q g.len dd] w fun v w' => ∃ (q3 : Option Addr) (c3 : Nat), v = .tuple #[.slice q3 ((diffF f.fo g.fo way 0).getD []).length c3, .bool (diffF f.fo g.fo way 0).isSome] ∧ Sep w0 w' (pRow 1 q3 ((diffF f.fo g.fo way 0).getD []).length c3 (ints ((diffF f.fo g.fo way 0).getD [])) :: cs) := by
  intro k
  induction k with
  | zero => intro f g p q c dd hk; omega
  | succ k ih =>
    intro f g p q c dd hk hw hw2 way pw cw hwl w0 w cs hS0 hWy hT hT2
    have hlw := FoM.len_wt f
    have hlw2 := FoM.len_wt g
    have hS := Sep.start w
    rw [diff_start]
    refine enter (l := [.slice pw way.length cw, .slice p f.len c, .slice q g.len dd]) Tryd.func56 rfl Tryd.ntmps56 (by kernel_rfl) rfl ?_
    refine sgo ?_
    refine wl ?_ (y_max rfl rfl)
    have hmx : max (f.len : Int) (g.len : Int) = ((max f.len g.len : Nat) : Int) := by omega
    rw [hmx]
    obtain ⟨mx, hm0⟩ : ∃ mx, mx = max f.len g.len := ⟨_, rfl⟩
    rw [← hm0]
    refine sgo ?_
    refine wcloop (X := Nat) (fun i => [(0, .slice pw way.length cw), (1, .slice p f.len c), (2, .slice q g.len dd), (18, int mx), (19, int i)])
      (fun i wr => i ≤ mx ∧ diffL ((nds f).drop 0) ((nds g).drop 0) way 0 = diffL ((nds f).drop i) ((nds g).drop i) way i ∧ Sep w wr []) (fun i => mx - i) 0 ⟨rfl, rfl, rfl, rfl, rfl, trivial⟩ ⟨Nat.zero_le _, rfl, hS⟩ ?_
    clear hS
    rintro i wr ρ ⟨hil, hdf, hS⟩
    refine sgo ?_
    (show WC _ _ _ _ _ _ _; first | refine WC_dec rfl (fun hc => ?_) (fun hc => ?_) | refine WC_cond rfl (fun hc => ?_) (fun hc => ?_))
    · have hlt0 : i < mx := by omega
      obtain ⟨wi, hwi⟩ : ∃ wi, wi = way ++ [i] := ⟨_, rfl⟩
      have hwil : wi.length = way.length + 1 := by rw [hwi]; simp
      clear hc
      refine sgo ?_
      refine sapp0 hS (hWy.sep hS).sg (fun q2 c2 w7 hS => ?_) (hl := by rw [ints_len, Nat.mul_one]) (h1 := ints_one way)
      refine sgo ?_
      refine sb1i hS fun b3 w8 hS => ?_
      refine sgo ?_
      refine sapp hS 1 (hS.own 0 rfl).sg (fun q4 c4 w9 hS => ?_)
      rw [ints_snoc, ← hwi, ← hwil] at hS
      rw [← hwil]
      replace hS : Sep w w9 [pRow 1 q4 wi.length c4 (ints wi)] := hS.sel 2 [1]
      refine sgo ?_
      by_cases hend : f.len ≤ i ∨ g.len ≤ i
      · rw [hdf, diffL_end way (by omega) hend, ← hwi]
        refine wcyes ?_ (ht := ?_)
        rotate_left
        · rcases hend with h | h
          · simp [pkb]; omega
          · simp [pkb]; omega
        refine sgo ?_
        (first | refine fp1 (.inl rfl) rfl rfl ?_ | refine fp2 (.inl rfl) rfl rfl rfl ?_ | refine fp3 (.inl rfl) rfl rfl rfl rfl ?_ | refine fp0 (.inr rfl) rfl ?_ | refine fp0 (.inl rfl) rfl ?_ | refine fp1 (.inr rfl) rfl rfl ?_)
        exact ⟨q4, c4, rfl, hS0.seq (ds := [_]) hS⟩
      · have hlt : i < f.len := by omega
        have hlt2 : i < g.len := by omega
        refine wcno ?_ (ht := by simp [pkb]; omega)
        have hTr := hT.frm hS.frm
        have hTr2 := hT2.frm hS.frm
        obtain ⟨m, hx, hm, hseg, hfl, hps, hat, hkT⟩ := tre_at hTr hlt
        obtain ⟨m2, hx2, hm2, hseg2, hfl2, hqs, hat2, hkT2⟩ := tre_at hTr2 hlt2
        have hsz := FoM.size_mem hm
        have hsm := nd_small hw hm
        have hsm2 := nd_small hw2 hm2
        obtain ⟨-, -, -, g3⟩ := nd_get hx
        obtain ⟨-, -, -, k3⟩ := nd_get hx2
        have hD : diffL ((nds f).drop 0) ((nds g).drop 0) way 0 = diffL (m.nd :: (nds f).drop (i + 1)) (m2.nd :: (nds g).drop (i + 1)) way i := by rw [hdf, nds_drop hx, nds_drop hx2]
        have hh : Im [] w9 q4 (ints wi) := hS.im 0 rfl
        have hih := fun w' (cs' : List Plot) (h : Sep w9 w' cs') => ih m.kids m2.kids m.kp m2.kp m.kc m2.kc (by omega) hsm.kids hsm2.kids wi q4 c4 (by omega) w9 w' cs' h (hh.frm h.frm) (hkT.frm h.frm) (hkT2.frm h.frm)
        have hSo := hS
        clear hS
        have hT := hTr
        have hT2 := hTr2
        have hS : Sep w9 w9 ([] ++ []) := Sep.start w9
        clear hTr hTr2
        have hTr := hT
        have hTr2 := hT2
        refine sgo ?_
        refine wcplanb (b := []) (dfP f g p q c dd i m m2) ⟨.nilIface, none, 0, 0, ()⟩ hS rfl (fun j oj a a' hj he hd h => ?_) ⟨?_, ?_, ?_, ?_, ?_, ?_, ?_, ?_, ?_, ?_, ?_, ?_, trivial⟩ ?_
        · have hjl : j < 12 := (List.getElem?_eq_some_iff.1 hj).1
          match j, hjl with
          | 0, _ | 1, _ | 2, _ | 3, _ | 4, _ | 5, _ | 6, _ | 7, _ | 8, _ | 9, _ => first | (simp only [dfP] at h ⊢; rw [← he]; exact h) | exact h
          | 10, _ => simp only [dfP] at h ⊢; rw [← he, ← hd 8 (by cases hj; rfl)]; exact h
          | 11, _ => simp only [dfP] at h ⊢; rw [← he, ← hd 9 (by cases hj; rfl)]; exact h
        · intro a σ' w' rest hσ hdep hS'   -- 0: move; pieces:  ..
          have e1 : σ' 1 = .slice p f.len c := (hσ 1 (notDstB rfl)).trans rfl
          exact rule_e [(1, _)] ⟨e1, trivial⟩ ⟨⟨.slice p f.len c, none, 0, 0, ()⟩, rfl, rfl, hS'⟩
        · intro a σ' w' rest hσ hdep hS'   -- 1: move; pieces:  ..
          have e8 : σ' 8 = int i := (hσ 8 (notDstB rfl)).trans rfl
          exact rule_e [(8, _)] ⟨e8, trivial⟩ ⟨⟨int i, none, 0, 0, ()⟩, rfl, rfl, hS'⟩
        · intro a σ' w' rest hσ hdep hS'   -- 2: indexAddr; pieces:  ..
          have f0 := (hdep 0 _ rfl rfl).2
          have e38 := ((hdep 0 _ rfl rfl).1 38 rfl).trans f0
          have f1 := (hdep 1 _ rfl rfl).2
          have e39 := ((hdep 1 _ rfl rfl).1 39 rfl).trans f1
          exact rule_y (y_idx e38 e39 hlt hps) ⟨⟨ptrAt p (i * 4), none, 0, 0, ()⟩, rfl, rfl, hS'⟩
        · intro a σ' w' rest hσ hdep hS'   -- 3: load; pieces:  ..
          have f2 := (hdep 2 _ rfl rfl).2
          have e40 := ((hdep 2 _ rfl rfl).1 40 rfl).trans f2
          exact rule_y (y_loada e40 (hT.frm hS'.frm).im.sg (by omega) hps) ⟨⟨.agg ⟨((f.list.flatMap NdM.cells).drop (i * 4)).take 4⟩, none, 0, 0, ()⟩, rfl, rfl, hS'⟩
        · intro a σ' w' rest hσ hdep hS'   -- 4: move; pieces:  ..
          have e2 : σ' 2 = .slice q g.len dd := (hσ 2 (notDstB rfl)).trans rfl
          exact rule_e [(2, _)] ⟨e2, trivial⟩ ⟨⟨.slice q g.len dd, none, 0, 0, ()⟩, rfl, rfl, hS'⟩
        · intro a σ' w' rest hσ hdep hS'   -- 5: move; pieces:  ..
          have e8 : σ' 8 = int i := (hσ 8 (notDstB rfl)).trans rfl
          exact rule_e [(8, _)] ⟨e8, trivial⟩ ⟨⟨int i, none, 0, 0, ()⟩, rfl, rfl, hS'⟩
        · intro a σ' w' rest hσ hdep hS'   -- 6: indexAddr; pieces:  ..
          have f4 := (hdep 4 _ rfl rfl).2
          have e42 := ((hdep 4 _ rfl rfl).1 42 rfl).trans f4
          have f5 := (hdep 5 _ rfl rfl).2
          have e43 := ((hdep 5 _ rfl rfl).1 43 rfl).trans f5
          exact rule_y (y_idx e42 e43 hlt2 hqs) ⟨⟨ptrAt q (i * 4), none, 0, 0, ()⟩, rfl, rfl, hS'⟩
        · intro a σ' w' rest hσ hdep hS'   -- 7: load; pieces:  ..
          have f6 := (hdep 6 _ rfl rfl).2
          have e44 := ((hdep 6 _ rfl rfl).1 44 rfl).trans f6
          exact rule_y (y_loada e44 (hT2.frm hS'.frm).im.sg (by omega) hqs) ⟨⟨.agg ⟨((g.list.flatMap NdM.cells).drop (i * 4)).take 4⟩, none, 0, 0, ()⟩, rfl, rfl, hS'⟩
        · intro a σ' w' rest hσ hdep hS'   -- 8: alloc; pieces:  ..
          obtain ⟨b, w2, hy, hS2⟩ := y_salloc2 (P := Tryd.prog) (e := 33) (d := some 10) hS'
          exact rule_y hy ⟨⟨ptrAt (pb b) 0, none, 0, b, ()⟩, rfl, rfl, hS2⟩
        · intro a σ' w' rest hσ hdep hS'   -- 9: alloc; pieces:  ..
          obtain ⟨b, w2, hy, hS2⟩ := y_salloc2 (P := Tryd.prog) (e := 33) (d := some 11) hS'
          exact rule_y hy ⟨⟨ptrAt (pb b) 0, none, 0, b, ()⟩, rfl, rfl, hS2⟩
        · intro a σ' w' rest hσ hdep hS'   -- 10: store; pieces: takes 8 ..
          have f8 := (hdep 8 _ rfl rfl).2
          have e10 := ((hdep 8 _ rfl rfl).1 10 rfl).trans f8
          have f3 := (hdep 3 _ rfl rfl).2
          have e41 := ((hdep 3 _ rfl rfl).1 41 rfl).trans f3
          rw [hseg] at e41
          obtain ⟨w2, hy, hS2⟩ := y_sst2 (P := Tryd.prog) (t := 33) (x := .tmp 10) (y := .tmp 41) hS' 0 rfl e10 e41 rfl (Nat.le_of_ble_eq_true rfl) (by simp [Go.Value.cells, NdM.cells, Go.Value.oneCell'])
          exact rule_y hy ⟨⟨undef, none, 0, (a 8).b, ()⟩, rfl, rfl, hS2⟩
        · intro a σ' w' rest hσ hdep hS'   -- 11: store; pieces: takes 9 ..
          have f9 := (hdep 9 _ rfl rfl).2
          have e11 := ((hdep 9 _ rfl rfl).1 11 rfl).trans f9
          have f7 := (hdep 7 _ rfl rfl).2
          have e45 := ((hdep 7 _ rfl rfl).1 45 rfl).trans f7
          rw [hseg2] at e45
          obtain ⟨w2, hy, hS2⟩ := y_sst2 (P := Tryd.prog) (t := 33) (x := .tmp 11) (y := .tmp 45) hS' 0 rfl e11 e45 rfl (Nat.le_of_ble_eq_true rfl) (by simp [Go.Value.cells, NdM.cells, Go.Value.oneCell'])
          exact rule_y hy ⟨⟨undef, none, 0, (a 9).b, ()⟩, rfl, rfl, hS2⟩
        · intro a σ' w' hσ hA' hS'
          have h8 := hA' 8 _ rfl
          have h9 := hA' 9 _ rfl
          have h10 := hA' 10 _ rfl
          have h11 := hA' 11 _ rfl
          rw [frameOf (σ := σ') [(0, .slice pw way.length cw), (1, .slice p f.len c), (2, .slice q g.len dd), (8, int i), (9, .slice q4 wi.length c4), (10, ptrAt (pb (a 8).b) 0), (11, ptrAt (pb (a 9).b) 0), (18, int mx), (19, int i)]
            ⟨(hσ 0 (notDst rfl)).trans rfl, (hσ 1 (notDst rfl)).trans rfl, (hσ 2 (notDst rfl)).trans rfl, (hσ 8 (notDst rfl)).trans rfl, (hσ 9 (notDst rfl)).trans rfl, (h8.1 10 rfl).trans h8.2, (h9.1 11 rfl).trans h9.2, (hσ 18 (notDst rfl)).trans rfl, (hσ 19 (notDst rfl)).trans rfl, trivial⟩]
          have hb10 : (a 10).b = (a 8).b := h10.2
          have hb11 : (a 11).b = (a 9).b := h11.2
          replace hS : Sep w9 w' [pOwn (a 10).b m.cells, pOwn (a 11).b m2.cells] := hS'
          rw [hb10, hb11] at hS
          generalize (a 8).b = b10 at *
          generalize (a 9).b = b11 at *
          clear hA' hS' h8 h9 h10 h11 hb10 hb11 hσ
          replace hS : Sep w9 w' [pOwn b10 [str m.name, str m.text, .slice m.ap m.attrs.length m.ac, .slice m.kp m.kids.len m.kc], pOwn b11 [str m2.name, str m2.text, .slice m2.ap m2.attrs.length m2.ac, .slice m2.kp m2.kids.len m2.kc]] := hS
          refine sgo ?_
          refine sst_slice hS 0 fun w10 hS => ?_
          refine sgo ?_
          refine sst_slice hS 1 fun w11 hS => ?_
          replace hS : Sep w9 w11 [pOwn b10 [str m.name, str m.text, .slice m.ap m.attrs.length m.ac, .slice none 0 0], pOwn b11 [str m2.name, str m2.text, .slice m2.ap m2.attrs.length m2.ac, .slice none 0 0]] := hS
          refine sgo ?_
          refine wlbuild (cells := [str m.name, str m.text, .slice m.ap m.attrs.length m.ac, .slice none 0 0]) ?_
          refine wlbuild (cells := [str m.name, str m.text, .slice m.ap m.attrs.length m.ac, .slice none 0 0]) ?_
          refine sgo ?_
          have hsa := likeSame_ok ⟨m.name, m.text, m.attrs, m.ap, m.ac, .nil, none, 0⟩ ⟨m2.name, m2.text, m2.attrs, m2.ap, m2.ac, .nil, none, 0⟩ ⟨hsm.name, hsm.text, hsm.attrs, hsm.each, Nat.zero_le _, Nat.zero_le _⟩ ⟨hsm2.name, hsm2.text, hsm2.attrs, hsm2.each, Nat.zero_le _, Nat.zero_le _⟩ w11 (hat.frm hS.frm) (hat2.frm hS.frm)
            (fun w2 h2 => domEqual_ok 1 .nil .nil none none 0 0 (by decide) (by decide) (by decide) w2 ⟨Im.nil _ _ _, trivial⟩ ⟨Im.nil _ _ _, trivial⟩)
          refine wlpure hsa fun w12 hf12 => ?_
          replace hS := hS.grow hf12
          have heq : (NdM.nd ⟨m.name, m.text, m.attrs, m.ap, m.ac, .nil, none, 0⟩ = NdM.nd ⟨m2.name, m2.text, m2.attrs, m2.ap, m2.ac, .nil, none, 0⟩) ↔ (m.name = m2.name ∧ m.text = m2.text ∧ m.attrs = m2.attrs) := (nd_eq _ _).trans ⟨fun h => ⟨h.1, h.2.1, h.2.2.1⟩, fun h => ⟨h.1, h.2.1, h.2.2, rfl⟩⟩
          refine sgo ?_
          by_cases he : m.name = m2.name ∧ m.text = m2.text ∧ m.attrs = m2.attrs
          · refine wcno ?_ (ht := by rw [decide_eq_true (heq.2 he)]; rfl)
            refine sgo ?_
            refine wlbuild (cells := [str m.name, str m.text, .slice m.ap m.attrs.length m.ac, .slice none 0 0]) ?_
            refine wlpure (oneText_ok m.name (str m.text) (.slice m.ap m.attrs.length m.ac) (.slice none 0 0) _) fun w13 hf13 => ?_
            replace hS := hS.grow hf13
            refine sgo ?_
            by_cases hn : m.name = []
            · have hD2 := hD.trans (diffL_txt he hn)
              refine wcyes ?_ (ht := by simp [hn])
              refine sgo ?_
              exact ⟨i + 1, ⟨rfl, rfl, rfl, rfl, rfl, trivial⟩, ⟨hlt0, hD2, hSo.empty.seq (ds := []) hS.empty⟩, (by (try dsimp only); omega)⟩
            · have hD2 := hD.trans (diffL_el he hn)
              rw [← hwi] at hD2
              refine wcno ?_ (ht := by simp [hn])
              replace hS : Sep w9 w13 ([] ++ [pOwn b10 [str m.name, str m.text, .slice m.ap m.attrs.length m.ac, .slice none 0 0], pOwn b11 [str m2.name, str m2.text, .slice m2.ap m2.attrs.length m2.ac, .slice none 0 0]]) := hS
              refine sgo ?_
              refine wcplanb (b := []) (dgP p q q4 f.len g.len c dd c4 i wi m m2 (diffF m.kids.fo m2.kids.fo wi 0)) ⟨.nilIface, none, 0, 0, ()⟩ hS rfl (fun j oj a a' hj he hd h => ?_) ⟨?_, ?_, ?_, ?_, ?_, ?_, ?_, ?_, ?_, ?_, ?_, ?_, ?_, ?_, ?_, ?_, ?_, trivial⟩ ?_
              · have hjl : j < 17 := (List.getElem?_eq_some_iff.1 hj).1
                match j, hjl with
                | 0, _ | 1, _ | 2, _ | 3, _ | 4, _ | 5, _ | 6, _ | 7, _ | 8, _ | 9, _ | 10, _ | 11, _ | 14, _ | 16, _ => first | (simp only [dgP] at h ⊢; rw [← he]; exact h) | exact h
                | 12, _ => simp only [dgP] at h ⊢; rw [← he, ← hd 11 (by cases hj; rfl)]; exact h
                | 13, _ => simp only [dgP] at h ⊢; rw [← he, ← hd 12 (by cases hj; rfl)]; exact h
                | 15, _ => simp only [dgP] at h ⊢; rw [← he, ← hd 13 (by cases hj; rfl)]; exact h
              · intro a σ' w' rest hσ hdep hS'   -- 0: move; pieces:  ..
                have e9 : σ' 9 = .slice q4 wi.length c4 := (hσ 9 (notDstB rfl)).trans rfl
                exact rule_e [(9, _)] ⟨e9, trivial⟩ ⟨⟨.slice q4 wi.length c4, none, 0, 0, ()⟩, rfl, rfl, hS'⟩
              · intro a σ' w' rest hσ hdep hS'   -- 1: move; pieces:  ..
                have e1 : σ' 1 = .slice p f.len c := (hσ 1 (notDstB rfl)).trans rfl
                exact rule_e [(1, _)] ⟨e1, trivial⟩ ⟨⟨.slice p f.len c, none, 0, 0, ()⟩, rfl, rfl, hS'⟩
              · intro a σ' w' rest hσ hdep hS'   -- 2: move; pieces:  ..
                have e8 : σ' 8 = int i := (hσ 8 (notDstB rfl)).trans rfl
                exact rule_e [(8, _)] ⟨e8, trivial⟩ ⟨⟨int i, none, 0, 0, ()⟩, rfl, rfl, hS'⟩
              · intro a σ' w' rest hσ hdep hS'   -- 3: indexAddr; pieces:  ..
                have f1 := (hdep 1 _ rfl rfl).2
                have e60 := ((hdep 1 _ rfl rfl).1 60 rfl).trans f1
                have f2 := (hdep 2 _ rfl rfl).2
                have e61 := ((hdep 2 _ rfl rfl).1 61 rfl).trans f2
                exact rule_y (y_idx e60 e61 hlt hps) ⟨⟨ptrAt p (i * 4), none, 0, 0, ()⟩, rfl, rfl, hS'⟩
              · intro a σ' w' rest hσ hdep hS'   -- 4: fieldAddr; pieces:  ..
                have f3 := (hdep 3 _ rfl rfl).2
                have e62 := ((hdep 3 _ rfl rfl).1 62 rfl).trans f3
                exact rule_y (y_field e62 hps (by decide)) ⟨⟨ptrAt p (i * 4 + 3), none, 0, 0, ()⟩, rfl, rfl, hS'⟩
              · intro a σ' w' rest hσ hdep hS'   -- 5: load; pieces:  ..
                have f4 := (hdep 4 _ rfl rfl).2
                have e63 := ((hdep 4 _ rfl rfl).1 63 rfl).trans f4
                exact rule_y (y_load e63 (hTr.frm hS'.frm).im.sg g3) ⟨⟨.slice m.kp m.kids.len m.kc, none, 0, 0, ()⟩, rfl, rfl, hS'⟩
              · intro a σ' w' rest hσ hdep hS'   -- 6: move; pieces:  ..
                have e2 : σ' 2 = .slice q g.len dd := (hσ 2 (notDstB rfl)).trans rfl
                exact rule_e [(2, _)] ⟨e2, trivial⟩ ⟨⟨.slice q g.len dd, none, 0, 0, ()⟩, rfl, rfl, hS'⟩
              · intro a σ' w' rest hσ hdep hS'   -- 7: move; pieces:  ..
                have e8 : σ' 8 = int i := (hσ 8 (notDstB rfl)).trans rfl
                exact rule_e [(8, _)] ⟨e8, trivial⟩ ⟨⟨int i, none, 0, 0, ()⟩, rfl, rfl, hS'⟩
              · intro a σ' w' rest hσ hdep hS'   -- 8: indexAddr; pieces:  ..
                have f6 := (hdep 6 _ rfl rfl).2
                have e65 := ((hdep 6 _ rfl rfl).1 65 rfl).trans f6
                have f7 := (hdep 7 _ rfl rfl).2
                have e66 := ((hdep 7 _ rfl rfl).1 66 rfl).trans f7
                exact rule_y (y_idx e65 e66 hlt2 hqs) ⟨⟨ptrAt q (i * 4), none, 0, 0, ()⟩, rfl, rfl, hS'⟩
              · intro a σ' w' rest hσ hdep hS'   -- 9: fieldAddr; pieces:  ..
                have f8 := (hdep 8 _ rfl rfl).2
                have e67 := ((hdep 8 _ rfl rfl).1 67 rfl).trans f8
                exact rule_y (y_field e67 hqs (by decide)) ⟨⟨ptrAt q (i * 4 + 3), none, 0, 0, ()⟩, rfl, rfl, hS'⟩
              · intro a σ' w' rest hσ hdep hS'   -- 10: load; pieces:  ..
                have f9 := (hdep 9 _ rfl rfl).2
                have e68 := ((hdep 9 _ rfl rfl).1 68 rfl).trans f9
                exact rule_y (y_load e68 (hTr2.frm hS'.frm).im.sg k3) ⟨⟨.slice m2.kp m2.kids.len m2.kc, none, 0, 0, ()⟩, rfl, rfl, hS'⟩
              · intro a σ' w' rest hσ hdep hS'   -- 11: call; pieces:  ..
                have f0 := (hdep 0 _ rfl rfl).2
                have e59 := ((hdep 0 _ rfl rfl).1 59 rfl).trans f0
                have f5 := (hdep 5 _ rfl rfl).2
                have e64 := ((hdep 5 _ rfl rfl).1 64 rfl).trans f5
                have f10 := (hdep 10 _ rfl rfl).2
                have e69 := ((hdep 10 _ rfl rfl).1 69 rfl).trans f10
                refine rule_call (vals := [.slice q4 wi.length c4, .slice m.kp m.kids.len m.kc, .slice m2.kp m2.kids.len m2.kc]) (hih w' _ hS') (fun v w2 hR => ?_) (am3 e59 e64 e69)
                obtain ⟨q3, c3, rfl, hS2⟩ := hR
                exact ⟨⟨_, q3, c3, 0, ()⟩, rfl, rfl, hS2⟩
              · intro a σ' w' rest hσ hdep hS'   -- 12: move; pieces:  ..
                have f11 := (hdep 11 _ rfl rfl).2
                have e70 := ((hdep 11 _ rfl rfl).1 70 rfl).trans f11
                exact rule_e [(70, _)] ⟨e70, trivial⟩ ⟨⟨.tuple #[.slice (a 11).p ((diffF m.kids.fo m2.kids.fo wi 0).getD []).length (a 11).c, .bool (diffF m.kids.fo m2.kids.fo wi 0).isSome], (a 11).p, (a 11).c, 0, ()⟩, rfl, ⟨rfl, rfl, rfl⟩, hS'⟩
              · intro a σ' w' rest hσ hdep hS'   -- 13: extract; pieces:  ..
                have f12 := (hdep 12 _ rfl rfl).2
                have e58 := ((hdep 12 _ rfl rfl).1 58 rfl).trans f12.1
                exact rule_y (y_extract e58 rfl) ⟨⟨.slice (a 12).p ((diffF m.kids.fo m2.kids.fo wi 0).getD []).length (a 12).c, (a 12).p, (a 12).c, 0, ()⟩, rfl, ⟨rfl, rfl, rfl⟩, hS'⟩
              · intro a σ' w' rest hσ hdep hS'   -- 14: extract; pieces:  ..
                have f12 := (hdep 12 _ rfl rfl).2
                have e58 := ((hdep 12 _ rfl rfl).1 58 rfl).trans f12.1
                exact rule_y (y_extract e58 rfl) ⟨⟨.bool (diffF m.kids.fo m2.kids.fo wi 0).isSome, none, 0, 0, ()⟩, rfl, rfl, hS'⟩
              · intro a σ' w' rest hσ hdep hS'   -- 15: assign; pieces:  ..
                have f13 := (hdep 13 _ rfl rfl).2
                have e71 := ((hdep 13 _ rfl rfl).1 71 rfl).trans f13.1
                exact rule_e [(71, _)] ⟨e71, trivial⟩ ⟨⟨.slice (a 13).p ((diffF m.kids.fo m2.kids.fo wi 0).getD []).length (a 13).c, (a 13).p, (a 13).c, 0, ()⟩, rfl, ⟨rfl, rfl, rfl⟩, hS'⟩
              · intro a σ' w' rest hσ hdep hS'   -- 16: assign; pieces:  ..
                have f14 := (hdep 14 _ rfl rfl).2
                have e72 := ((hdep 14 _ rfl rfl).1 72 rfl).trans f14
                exact rule_e [(72, _)] ⟨e72, trivial⟩ ⟨⟨.bool (diffF m.kids.fo m2.kids.fo wi 0).isSome, none, 0, 0, ()⟩, rfl, rfl, hS'⟩
              · intro a σ' w' hσ hA' hS'
                have h11 := hA' 11 _ rfl
                have h12 := hA' 12 _ rfl
                have h13 := hA' 13 _ rfl
                have h15 := hA' 15 _ rfl
                have h16 := hA' 16 _ rfl
                have hp15 : (a 15).p = (a 11).p := h15.2.2.1.trans (h13.2.2.1.trans h12.2.2.1)
                have hc15 : (a 15).c = (a 11).c := h15.2.2.2.trans (h13.2.2.2.trans h12.2.2.2)
                cases hr : diffF m.kids.fo m2.kids.fo wi 0 with
                | some x =>
                  replace hD2 : diffL ((nds f).drop 0) ((nds g).drop 0) way 0 = some x := by rw [hD2, hr]
                  rw [frameOf (σ := σ') [(0, .slice pw way.length cw), (1, .slice p f.len c), (2, .slice q g.len dd), (12, .slice (a 11).p x.length (a 11).c), (13, .bool true), (18, int mx), (19, int i)]
                    ⟨(hσ 0 (notDst rfl)).trans rfl, (hσ 1 (notDst rfl)).trans rfl, (hσ 2 (notDst rfl)).trans rfl, (h15.1 12 rfl).trans (by rw [h15.2.1, hp15, hc15, hr]; rfl), (h16.1 13 rfl).trans (by rw [h16.2, hr]; rfl), (hσ 18 (notDst rfl)).trans rfl, (hσ 19 (notDst rfl)).trans rfl, trivial⟩]
                  replace hS : Sep w9 w' [pRow 1 (a 11).p ((diffF m.kids.fo m2.kids.fo wi 0).getD []).length (a 11).c (ints ((diffF m.kids.fo m2.kids.fo wi 0).getD [])), pOwn b10 [str m.name, str m.text, .slice m.ap m.attrs.length m.ac, .slice none 0 0], pOwn b11 [str m2.name, str m2.text, .slice m2.ap m2.attrs.length m2.ac, .slice none 0 0]] := hS'
                  rw [hr] at hS
                  rw [hD2]
                  clear hA' hS' h11 h12 h13 h15 h16 hp15 hc15 hσ
                  refine sgo ?_
                  (first | refine fp1 (.inl rfl) rfl rfl ?_ | refine fp2 (.inl rfl) rfl rfl rfl ?_ | refine fp3 (.inl rfl) rfl rfl rfl rfl ?_ | refine fp0 (.inr rfl) rfl ?_ | refine fp0 (.inl rfl) rfl ?_ | refine fp1 (.inr rfl) rfl rfl ?_)
                  exact ⟨(a 11).p, (a 11).c, rfl, hS0.seq (ds := [_]) ((hSo.seq hS).sel 4 [0])⟩
                | none =>
                  replace hD2 : diffL ((nds f).drop 0) ((nds g).drop 0) way 0 = diffL ((nds f).drop (i + 1)) ((nds g).drop (i + 1)) way (i + 1) := by rw [hD2, hr]
                  rw [frameOf (σ := σ') [(0, .slice pw way.length cw), (1, .slice p f.len c), (2, .slice q g.len dd), (13, .bool false), (18, int mx), (19, int i)]
                    ⟨(hσ 0 (notDst rfl)).trans rfl, (hσ 1 (notDst rfl)).trans rfl, (hσ 2 (notDst rfl)).trans rfl, (h16.1 13 rfl).trans (by rw [h16.2, hr]; rfl), (hσ 18 (notDst rfl)).trans rfl, (hσ 19 (notDst rfl)).trans rfl, trivial⟩]
                  have hSe : Sep w9 w' [] := hS'.empty
                  clear hA' hS' h11 h12 h13 h15 h16 hp15 hc15 hσ
                  refine sgo ?_
                  exact ⟨i + 1, ⟨rfl, rfl, rfl, rfl, rfl, trivial⟩, ⟨hlt0, hD2, hSo.empty.seq (ds := []) hSe⟩, (by (try dsimp only); omega)⟩
          · have hD2 := hD.trans (diffL_ne he)
            rw [← hwi] at hD2
            rw [hD2]
            refine wcyes ?_ (ht := by rw [decide_eq_false (fun h => he (heq.1 h))]; rfl)
            refine sgo ?_
            (first | refine fp1 (.inl rfl) rfl rfl ?_ | refine fp2 (.inl rfl) rfl rfl rfl ?_ | refine fp3 (.inl rfl) rfl rfl rfl rfl ?_ | refine fp0 (.inr rfl) rfl ?_ | refine fp0 (.inl rfl) rfl ?_ | refine fp1 (.inr rfl) rfl rfl ?_)
            exact ⟨q4, c4, rfl, hS0.seq (ds := [_]) (hSo.grow hS.frm)⟩
    · obtain rfl : i = mx := by omega
      rw [hdf, nds_end (by omega), nds_end (by omega)]
      refine sgo ?_
      (first | refine fp1 (.inl rfl) rfl rfl ?_ | refine fp2 (.inl rfl) rfl rfl rfl ?_ | refine fp3 (.inl rfl) rfl rfl rfl rfl ?_ | refine fp0 (.inr rfl) rfl ?_ | refine fp0 (.inl rfl) rfl ?_ | refine fp1 (.inr rfl) rfl rfl ?_)
      exact ⟨none, 0, rfl, hS0.seq (ds := [_]) (hS.push (c := pRow 1 none 0 0 []) (Frm.refl _) (Row.nil _ 1) (rb_nil _))⟩
end Go.Proofs.YtcdogceabkpnmaaDoor

/-
  Chapter 21: sieveref21.Diff; sameWay; DomDiffs.
-/
set_option linter.unusedSimpArgs false
set_option linter.unusedVariables false
set_option linter.unnecessarySimpa false
namespace Go.Proofs.YtcdogceabkpnmaaDoor
open Go Go.Sv Go.RowKit
set_option maxHeartbeats 8000000 in
theorem refDiff_ok : ∀ (k : Nat) (f g : FoM) (p q : Option Addr) (c dd : Nat), f.size < k → f.wt ≤ 1048576 → g.wt ≤ 1048576 → ∀ (way : List Nat) (pw : Option Addr) (cw : Nat), way.length + k ≤ 4194304 → ∀ (w0 w : World) (cs : List Plot), Sep w0 w cs → Im [] w pw (ints way) → Tre w p f → Tre w q g →
    CallsR Tryd.prog 33 #[.slice p f.len c, .slice q g.len dd, .slice pw way.length cw] w fun v w' => ∃ (q3 : Option Addr) (c3 : Nat), v = .tuple #[.slice q3 ((diffF f.fo g.fo way 0).getD []).length c3, .bool (diffF f.fo g.fo way 0).isSome] ∧ Sep w0 w' (pRow 1 q3 ((diffF f.fo g.fo way 0).getD []).length c3 (ints ((diffF f.fo g.fo way 0).getD [])) :: cs) := by
  intro k
  induction k with
  | zero => intro f g p q c dd hk; omega
  | succ k ih =>
    intro f g p q c dd hk hw hw2 way pw cw hwl w0 w cs hS0 hWy hT hT2
    have hlw := FoM.len_wt f
    have hlw2 := FoM.len_wt g
    have hS := Sep.start w
    rw [diff_start]
    refine enter (l := [.slice p f.len c, .slice q g.len dd, .slice pw way.length cw]) Tryd.func33 rfl Tryd.ntmps33 (by kernel_rfl) rfl ?_
    refine sgo ?_
    obtain ⟨mx, hm0⟩ : ∃ mx, mx = max f.len g.len := ⟨_, rfl⟩
    refine wcloop (X := Nat) (fun i => [(0, .slice p f.len c), (1, .slice q g.len dd), (2, .slice pw way.length cw), (8, int i)])
      (fun i wr => i ≤ mx ∧ diffL ((nds f).drop 0) ((nds g).drop 0) way 0 = diffL ((nds f).drop i) ((nds g).drop i) way i ∧ Sep w wr []) (fun i => mx - i) 0 ⟨rfl, rfl, rfl, rfl, trivial⟩ ⟨Nat.zero_le _, rfl, hS⟩ ?_
    clear hS
    rintro i wr ρ ⟨hil, hdf, hS⟩
    refine sgo ?_
    by_cases hlt0 : i < mx
    · refine wcyes ?_ (ht := ?_)
      rotate_left
      · have h : i < f.len ∨ i < g.len := by omega
        rcases h with h | h
        · simp [pkb, h]
        · simp [pkb, h]
      obtain ⟨wi, hwi⟩ : ∃ wi, wi = way ++ [i] := ⟨_, rfl⟩
      have hwil : wi.length = way.length + 1 := by rw [hwi]; simp
      refine sgo ?_
      refine sb0 hS fun b2 w6 hS => ?_
      refine sgo ?_
      refine sapp hS 0 (hWy.sep hS).sg (fun q2 c2 w7 hS => ?_) (hl := by rw [ints_len, Nat.mul_one]) (h1 := ints_one way)
      rw [show 0 + way.length = way.length from Nat.zero_add _] at hS
      rw [show 0 + way.length = way.length from Nat.zero_add _]
      replace hS : Sep w w7 [pRow 1 q2 way.length c2 (ints way)] := hS
      refine sgo ?_
      refine sb1i hS fun b3 w8 hS => ?_
      refine sgo ?_
      refine sapp hS 1 (hS.own 0 rfl).sg (fun q4 c4 w9 hS => ?_)
      rw [ints_snoc, ← hwi, ← hwil] at hS
      rw [← hwil]
      replace hS : Sep w w9 [pRow 1 q4 wi.length c4 (ints wi)] := hS.sel 2 [1]
      refine sgo ?_
      by_cases hend : f.len ≤ i ∨ g.len ≤ i
      · rw [hdf, diffL_end way (by omega) hend, ← hwi]
        refine wcyes ?_ (ht := ?_)
        rotate_left
        · rcases hend with h | h
          · simp [pkb]; omega
          · simp [pkb]; omega
        refine sgo ?_
        (first | refine fp1 (.inl rfl) rfl rfl ?_ | refine fp2 (.inl rfl) rfl rfl rfl ?_ | refine fp3 (.inl rfl) rfl rfl rfl rfl ?_ | refine fp0 (.inr rfl) rfl ?_ | refine fp0 (.inl rfl) rfl ?_ | refine fp1 (.inr rfl) rfl rfl ?_)
        exact ⟨q4, c4, rfl, hS0.seq (ds := [_]) hS⟩
      · have hlt : i < f.len := by omega
        have hlt2 : i < g.len := by omega
        refine wcno ?_ (ht := by simp [pkb]; omega)
        have hTr := hT.frm hS.frm
        have hTr2 := hT2.frm hS.frm
        have hIm := hTr.im
        have hIm2 := hTr2.im
        obtain ⟨m, hx, hm, hseg, hfl, hps, hat, hkT⟩ := tre_at hTr hlt
        obtain ⟨m2, hx2, hm2, hseg2, hfl2, hqs, hat2, hkT2⟩ := tre_at hTr2 hlt2
        have hsz := FoM.size_mem hm
        have hsm := nd_small hw hm
        have hsm2 := nd_small hw2 hm2
        obtain ⟨g0, g1, g2, g3⟩ := nd_get hx
        obtain ⟨k0, k1, k2, k3⟩ := nd_get hx2
        have hD : diffL ((nds f).drop 0) ((nds g).drop 0) way 0 = diffL (m.nd :: (nds f).drop (i + 1)) (m2.nd :: (nds g).drop (i + 1)) way i := by rw [hdf, nds_drop hx, nds_drop hx2]
        have hh : Im [] w9 q4 (ints wi) := hS.im 0 rfl
        have hih := fun w' (cs' : List Plot) (h : Sep w9 w' cs') => ih m.kids m2.kids m.kp m2.kp m.kc m2.kc (by omega) hsm.kids hsm2.kids wi q4 c4 (by omega) w9 w' cs' h (hh.frm h.frm) (hkT.frm h.frm) (hkT2.frm h.frm)
        have hsa := fun w' (h : Frm w9 w') => sameAttrs_ok m.attrs m2.attrs m.ap m2.ap m.ac m2.ac hsm.attrs hsm2.attrs w' (hat.frm h) (hat2.frm h)
        have hSo := hS
        clear hS
        refine sgo ?_
        refine wcdraw ?_
        refine qgo ?_
        refine qlcallgp (vals := [.slice m.ap m.attrs.length m.ac, .slice m2.ap m2.attrs.length m2.ac]) (v := .bool (decide (m.attrs = m2.attrs))) (fun hg w' hw' => hsa w' hw') ?_
        refine qgo ?_
        refine QL_nil ?_
        intro w10 hf10
        have hSe : Sep w9 w10 [] := (Sep.start w9).grow hf10
        have hIm := (hTr.frm hf10).im
        have hIm2 := (hTr2.frm hf10).im
        refine sgo ?_
        by_cases he : m.name = m2.name ∧ m.text = m2.text ∧ m.attrs = m2.attrs
        · obtain ⟨he1, he2, he3⟩ := he
          refine wcno ?_ (ht := by rw [he1, he2, he3]; simp [pkb])
          refine sgo ?_
          by_cases hn : m.name = []
          · have hD2 := hD.trans (diffL_txt ⟨he1, he2, he3⟩ hn)
            refine wcyes ?_ (ht := by simp [hn])
            refine sgo ?_
            exact ⟨i + 1, ⟨rfl, rfl, rfl, rfl, trivial⟩, ⟨hlt0, hD2, hSo.empty.seq (ds := []) hSe⟩, (by (try dsimp only); omega)⟩
          · have hD2 := hD.trans (diffL_el ⟨he1, he2, he3⟩ hn)
            rw [← hwi] at hD2
            refine wcno ?_ (ht := by simp [hn])
            have hS : Sep w9 w10 ([] ++ []) := hSe
            refine sgo ?_
            refine wcplanb (b := []) (rgP p q q4 f.len g.len c dd c4 i wi m m2 (diffF m.kids.fo m2.kids.fo wi 0)) ⟨.nilIface, none, 0, 0, ()⟩ hS rfl (fun j oj a a' hj he hd h => ?_) ⟨?_, ?_, ?_, ?_, ?_, ?_, ?_, ?_, ?_, ?_, ?_, ?_, ?_, ?_, ?_, ?_, ?_, trivial⟩ ?_
            · have hjl : j < 17 := (List.getElem?_eq_some_iff.1 hj).1
              match j, hjl with
              | 0, _ | 1, _ | 2, _ | 3, _ | 4, _ | 5, _ | 6, _ | 7, _ | 8, _ | 9, _ | 10, _ | 11, _ | 14, _ | 16, _ => first | (simp only [rgP] at h ⊢; rw [← he]; exact h) | exact h
              | 12, _ => simp only [rgP] at h ⊢; rw [← he, ← hd 11 (by cases hj; rfl)]; exact h
              | 13, _ => simp only [rgP] at h ⊢; rw [← he, ← hd 12 (by cases hj; rfl)]; exact h
              | 15, _ => simp only [rgP] at h ⊢; rw [← he, ← hd 13 (by cases hj; rfl)]; exact h
            · intro a σ' w' rest hσ hdep hS'   -- 0: move; pieces:  ..
              have e0 : σ' 0 = .slice p f.len c := (hσ 0 (notDstB rfl)).trans rfl
              exact rule_e [(0, _)] ⟨e0, trivial⟩ ⟨⟨.slice p f.len c, none, 0, 0, ()⟩, rfl, rfl, hS'⟩
            · intro a σ' w' rest hσ hdep hS'   -- 1: move; pieces:  ..
              have e8 : σ' 8 = int i := (hσ 8 (notDstB rfl)).trans rfl
              exact rule_e [(8, _)] ⟨e8, trivial⟩ ⟨⟨int i, none, 0, 0, ()⟩, rfl, rfl, hS'⟩
            · intro a σ' w' rest hσ hdep hS'   -- 2: indexAddr; pieces:  ..
              have f0 := (hdep 0 _ rfl rfl).2
              have e87 := ((hdep 0 _ rfl rfl).1 87 rfl).trans f0
              have f1 := (hdep 1 _ rfl rfl).2
              have e88 := ((hdep 1 _ rfl rfl).1 88 rfl).trans f1
              exact rule_y (y_idx e87 e88 hlt hps) ⟨⟨ptrAt p (i * 4), none, 0, 0, ()⟩, rfl, rfl, hS'⟩
            · intro a σ' w' rest hσ hdep hS'   -- 3: fieldAddr; pieces:  ..
              have f2 := (hdep 2 _ rfl rfl).2
              have e89 := ((hdep 2 _ rfl rfl).1 89 rfl).trans f2
              exact rule_y (y_field e89 hps (by decide)) ⟨⟨ptrAt p (i * 4 + 3), none, 0, 0, ()⟩, rfl, rfl, hS'⟩
            · intro a σ' w' rest hσ hdep hS'   -- 4: load; pieces:  ..
              have f3 := (hdep 3 _ rfl rfl).2
              have e90 := ((hdep 3 _ rfl rfl).1 90 rfl).trans f3
              exact rule_y (y_load e90 (hTr.frm hS'.frm).im.sg g3) ⟨⟨.slice m.kp m.kids.len m.kc, none, 0, 0, ()⟩, rfl, rfl, hS'⟩
            · intro a σ' w' rest hσ hdep hS'   -- 5: move; pieces:  ..
              have e1 : σ' 1 = .slice q g.len dd := (hσ 1 (notDstB rfl)).trans rfl
              exact rule_e [(1, _)] ⟨e1, trivial⟩ ⟨⟨.slice q g.len dd, none, 0, 0, ()⟩, rfl, rfl, hS'⟩
            · intro a σ' w' rest hσ hdep hS'   -- 6: move; pieces:  ..
              have e8 : σ' 8 = int i := (hσ 8 (notDstB rfl)).trans rfl
              exact rule_e [(8, _)] ⟨e8, trivial⟩ ⟨⟨int i, none, 0, 0, ()⟩, rfl, rfl, hS'⟩
            · intro a σ' w' rest hσ hdep hS'   -- 7: indexAddr; pieces:  ..
              have f5 := (hdep 5 _ rfl rfl).2
              have e92 := ((hdep 5 _ rfl rfl).1 92 rfl).trans f5
              have f6 := (hdep 6 _ rfl rfl).2
              have e93 := ((hdep 6 _ rfl rfl).1 93 rfl).trans f6
              exact rule_y (y_idx e92 e93 hlt2 hqs) ⟨⟨ptrAt q (i * 4), none, 0, 0, ()⟩, rfl, rfl, hS'⟩
            · intro a σ' w' rest hσ hdep hS'   -- 8: fieldAddr; pieces:  ..
              have f7 := (hdep 7 _ rfl rfl).2
              have e94 := ((hdep 7 _ rfl rfl).1 94 rfl).trans f7
              exact rule_y (y_field e94 hqs (by decide)) ⟨⟨ptrAt q (i * 4 + 3), none, 0, 0, ()⟩, rfl, rfl, hS'⟩
            · intro a σ' w' rest hσ hdep hS'   -- 9: load; pieces:  ..
              have f8 := (hdep 8 _ rfl rfl).2
              have e95 := ((hdep 8 _ rfl rfl).1 95 rfl).trans f8
              exact rule_y (y_load e95 (hTr2.frm hS'.frm).im.sg k3) ⟨⟨.slice m2.kp m2.kids.len m2.kc, none, 0, 0, ()⟩, rfl, rfl, hS'⟩
            · intro a σ' w' rest hσ hdep hS'   -- 10: move; pieces:  ..
              have e9 : σ' 9 = .slice q4 wi.length c4 := (hσ 9 (notDstB rfl)).trans rfl
              exact rule_e [(9, _)] ⟨e9, trivial⟩ ⟨⟨.slice q4 wi.length c4, none, 0, 0, ()⟩, rfl, rfl, hS'⟩
            · intro a σ' w' rest hσ hdep hS'   -- 11: call; pieces:  ..
              have f4 := (hdep 4 _ rfl rfl).2
              have e91 := ((hdep 4 _ rfl rfl).1 91 rfl).trans f4
              have f9 := (hdep 9 _ rfl rfl).2
              have e96 := ((hdep 9 _ rfl rfl).1 96 rfl).trans f9
              have f10 := (hdep 10 _ rfl rfl).2
              have e97 := ((hdep 10 _ rfl rfl).1 97 rfl).trans f10
              refine rule_call (vals := [.slice m.kp m.kids.len m.kc, .slice m2.kp m2.kids.len m2.kc, .slice q4 wi.length c4]) (hih w' _ hS') (fun v w2 hR => ?_) (am3 e91 e96 e97)
              obtain ⟨q3, c3, rfl, hS2⟩ := hR
              exact ⟨⟨_, q3, c3, 0, ()⟩, rfl, rfl, hS2⟩
            · intro a σ' w' rest hσ hdep hS'   -- 12: move; pieces:  ..
              have f11 := (hdep 11 _ rfl rfl).2
              have e98 := ((hdep 11 _ rfl rfl).1 98 rfl).trans f11
              exact rule_e [(98, _)] ⟨e98, trivial⟩ ⟨⟨.tuple #[.slice (a 11).p ((diffF m.kids.fo m2.kids.fo wi 0).getD []).length (a 11).c, .bool (diffF m.kids.fo m2.kids.fo wi 0).isSome], (a 11).p, (a 11).c, 0, ()⟩, rfl, ⟨rfl, rfl, rfl⟩, hS'⟩
            · intro a σ' w' rest hσ hdep hS'   -- 13: extract; pieces:  ..
              have f12 := (hdep 12 _ rfl rfl).2
              have e86 := ((hdep 12 _ rfl rfl).1 86 rfl).trans f12.1
              exact rule_y (y_extract e86 rfl) ⟨⟨.slice (a 12).p ((diffF m.kids.fo m2.kids.fo wi 0).getD []).length (a 12).c, (a 12).p, (a 12).c, 0, ()⟩, rfl, ⟨rfl, rfl, rfl⟩, hS'⟩
            · intro a σ' w' rest hσ hdep hS'   -- 14: extract; pieces:  ..
              have f12 := (hdep 12 _ rfl rfl).2
              have e86 := ((hdep 12 _ rfl rfl).1 86 rfl).trans f12.1
              exact rule_y (y_extract e86 rfl) ⟨⟨.bool (diffF m.kids.fo m2.kids.fo wi 0).isSome, none, 0, 0, ()⟩, rfl, rfl, hS'⟩
            · intro a σ' w' rest hσ hdep hS'   -- 15: assign; pieces:  ..
              have f13 := (hdep 13 _ rfl rfl).2
              have e99 := ((hdep 13 _ rfl rfl).1 99 rfl).trans f13.1
              exact rule_e [(99, _)] ⟨e99, trivial⟩ ⟨⟨.slice (a 13).p ((diffF m.kids.fo m2.kids.fo wi 0).getD []).length (a 13).c, (a 13).p, (a 13).c, 0, ()⟩, rfl, ⟨rfl, rfl, rfl⟩, hS'⟩
            · intro a σ' w' rest hσ hdep hS'   -- 16: assign; pieces:  ..
              have f14 := (hdep 14 _ rfl rfl).2
              have e100 := ((hdep 14 _ rfl rfl).1 100 rfl).trans f14
              exact rule_e [(100, _)] ⟨e100, trivial⟩ ⟨⟨.bool (diffF m.kids.fo m2.kids.fo wi 0).isSome, none, 0, 0, ()⟩, rfl, rfl, hS'⟩
            · intro a σ' w' hσ hA' hS'
              have h11 := hA' 11 _ rfl
              have h12 := hA' 12 _ rfl
              have h13 := hA' 13 _ rfl
              have h15 := hA' 15 _ rfl
              have h16 := hA' 16 _ rfl
              have hp15 : (a 15).p = (a 11).p := h15.2.2.1.trans (h13.2.2.1.trans h12.2.2.1)
              have hc15 : (a 15).c = (a 11).c := h15.2.2.2.trans (h13.2.2.2.trans h12.2.2.2)
              cases hr : diffF m.kids.fo m2.kids.fo wi 0 with
              | some x =>
                replace hD2 : diffL ((nds f).drop 0) ((nds g).drop 0) way 0 = some x := by rw [hD2, hr]
                rw [frameOf (σ := σ') [(0, .slice p f.len c), (1, .slice q g.len dd), (2, .slice pw way.length cw), (8, int i), (10, .slice (a 11).p x.length (a 11).c), (11, .bool true)]
                  ⟨(hσ 0 (notDst rfl)).trans rfl, (hσ 1 (notDst rfl)).trans rfl, (hσ 2 (notDst rfl)).trans rfl, (hσ 8 (notDst rfl)).trans rfl, (h15.1 10 rfl).trans (by rw [h15.2.1, hp15, hc15, hr]; rfl), (h16.1 11 rfl).trans (by rw [h16.2, hr]; rfl), trivial⟩]
                replace hS : Sep w9 w' [pRow 1 (a 11).p ((diffF m.kids.fo m2.kids.fo wi 0).getD []).length (a 11).c (ints ((diffF m.kids.fo m2.kids.fo wi 0).getD []))] := hS'
                rw [hr] at hS
                rw [hD2]
                clear hA' hS' h11 h12 h13 h15 h16 hp15 hc15 hσ
                refine sgo ?_
                (first | refine fp1 (.inl rfl) rfl rfl ?_ | refine fp2 (.inl rfl) rfl rfl rfl ?_ | refine fp3 (.inl rfl) rfl rfl rfl rfl ?_ | refine fp0 (.inr rfl) rfl ?_ | refine fp0 (.inl rfl) rfl ?_ | refine fp1 (.inr rfl) rfl rfl ?_)
                exact ⟨(a 11).p, (a 11).c, rfl, hS0.seq (ds := [_]) ((hSo.seq hS).sel 2 [0])⟩
              | none =>
                replace hD2 : diffL ((nds f).drop 0) ((nds g).drop 0) way 0 = diffL ((nds f).drop (i + 1)) ((nds g).drop (i + 1)) way (i + 1) := by rw [hD2, hr]
                rw [frameOf (σ := σ') [(0, .slice p f.len c), (1, .slice q g.len dd), (2, .slice pw way.length cw), (8, int i), (11, .bool false)]
                  ⟨(hσ 0 (notDst rfl)).trans rfl, (hσ 1 (notDst rfl)).trans rfl, (hσ 2 (notDst rfl)).trans rfl, (hσ 8 (notDst rfl)).trans rfl, (h16.1 11 rfl).trans (by rw [h16.2, hr]; rfl), trivial⟩]
                have hSe2 : Sep w9 w' [] := hS'.empty
                clear hA' hS' h11 h12 h13 h15 h16 hp15 hc15 hσ
                refine sgo ?_
                exact ⟨i + 1, ⟨rfl, rfl, rfl, rfl, trivial⟩, ⟨hlt0, hD2, hSo.empty.seq (ds := []) hSe2⟩, (by (try dsimp only); omega)⟩
        · have hD2 := hD.trans (diffL_ne he)
          rw [← hwi] at hD2
          rw [hD2]
          refine wcyes ?_ (ht := ?_)
          rotate_left
          · by_cases e1 : m.name = m2.name
            · by_cases e2 : m.text = m2.text
              · have e3 : ¬ m.attrs = m2.attrs := fun e3 => he ⟨e1, e2, e3⟩
                simp [pkb, e1, e2, e3]
              · simp [pkb, e1, e2]
            · simp [pkb, e1]
          refine sgo ?_
          (first | refine fp1 (.inl rfl) rfl rfl ?_ | refine fp2 (.inl rfl) rfl rfl rfl ?_ | refine fp3 (.inl rfl) rfl rfl rfl rfl ?_ | refine fp0 (.inr rfl) rfl ?_ | refine fp0 (.inl rfl) rfl ?_ | refine fp1 (.inr rfl) rfl rfl ?_)
          exact ⟨q4, c4, rfl, hS0.seq (ds := [_]) (hSo.grow hf10)⟩
    · obtain rfl : i = mx := by omega
      refine wcno ?_ (ht := ?_)
      rotate_left
      · have h1 : ¬ i < f.len := by omega
        have h2 : ¬ i < g.len := by omega
        simp [pkb]; omega
      rw [hdf, nds_end (by omega), nds_end (by omega)]
      refine sgo ?_
      (first | refine fp1 (.inl rfl) rfl rfl ?_ | refine fp2 (.inl rfl) rfl rfl rfl ?_ | refine fp3 (.inl rfl) rfl rfl rfl rfl ?_ | refine fp0 (.inr rfl) rfl ?_ | refine fp0 (.inl rfl) rfl ?_ | refine fp1 (.inr rfl) rfl rfl ?_)
      exact ⟨none, 0, rfl, hS0.seq (ds := [_]) (hS.push (c := pRow 1 none 0 0 []) (Frm.refl _) (Row.nil _ 1) (rb_nil _))⟩
end Go.Proofs.YtcdogceabkpnmaaDoor

/-
  Chapter 21: DomDiffs walked.
-/
set_option linter.unusedSimpArgs false
set_option linter.unusedVariables false
set_option linter.unnecessarySimpa false
namespace Go.Proofs.YtcdogceabkpnmaaDoor
open Go Go.Sv Go.RowKit
theorem diff_sym (f : Fo) : ∀ g w i, diffF f g w i = diffF g f w i := by
  induction f with
  | nil => intro g w i; cases g <;> rfl
  | cons n t es ks r ih1 ih2 =>
    intro g w i
    cases g with
    | nil => rfl
    | cons n2 t2 es2 ks2 r2 =>
      simp only [diffF]
      by_cases h : n = n2 ∧ t = t2 ∧ es = es2
      · have h' : n2 = n ∧ t2 = t ∧ es2 = es := ⟨h.1.symm, h.2.1.symm, h.2.2.symm⟩
        rw [if_pos h, if_pos h', ih1, ih2, h.1]
      · have h' : ¬ (n2 = n ∧ t2 = t ∧ es2 = es) := fun h2 => h ⟨h2.1.symm, h2.2.1.symm, h2.2.2.symm⟩
        rw [if_neg h, if_neg h']
theorem diff_self (f : Fo) : ∀ w i, diffF f f w i = none := by
  induction f with
  | nil => intro w i; rfl
  | cons n t es ks r ih1 ih2 =>
    intro w i
    simp [diffF, ih1, ih2]
theorem diff_plain (f : Fo) : ∀ g w i, f.plain → g.plain → diffF f g w i = none → f = g := by
  induction f with
  | nil =>
    intro g w i _ _ h
    cases g with
    | nil => rfl
    | cons n2 t2 es2 ks2 r2 => cases h
  | cons n t es ks r ih1 ih2 =>
    intro g w i hf hg h
    cases g with
    | nil => cases h
    | cons n2 t2 es2 ks2 r2 =>
      simp only [diffF] at h
      obtain ⟨f1, f2⟩ := hf
      obtain ⟨g1, g2⟩ := hg
      by_cases he : n = n2 ∧ t = t2 ∧ es = es2
      · rw [if_pos he] at h
        obtain ⟨rfl, rfl, rfl⟩ := he
        by_cases hn : n = []
        · rw [if_pos hn] at h f1 g1
          rw [f1.2.2, g1.2.2, ih2 r2 w (i + 1) f2 g2 h]
        · rw [if_neg hn] at h f1 g1
          cases hk : diffF ks ks2 (w ++ [i]) 0 with
          | some x => rw [hk] at h; cases h
          | none =>
            rw [hk] at h
            rw [ih1 ks2 _ 0 f1.2.1 g1.2.1 hk, ih2 r2 w (i + 1) f2 g2 h]
      · rw [if_neg he] at h; cases h
theorem diff_may {f g : Fo} (hf : f.may = true) (hg : g.may = true) : (diffF f g [] 0).isSome = !decide (f = g) := by
  by_cases h : f = g
  · subst h
    rw [diff_self, decide_eq_true rfl]; rfl
  · rw [decide_eq_false h]
    cases hd : diffF f g [] 0 with
    | some x => rfl
    | none => exact absurd (diff_plain f g [] 0 (may_plain f hf) (may_plain g hg) hd) h
theorem ints_get {l : List Nat} {i x : Nat} (h : l[i]? = some x) : (ints l)[i]? = some (int x) := by simp [ints, h]
theorem diff_len (f : Fo) : ∀ g w i x, diffF f g w i = some x → x.length ≤ w.length + f.wt + 1 := by
  induction f with
  | nil =>
    intro g w i x h
    cases g with
    | nil => cases h
    | cons n2 t2 es2 ks2 r2 => simp only [diffF] at h; injection h with h; subst h; simp
  | cons n t es ks r ih1 ih2 =>
    intro g w i x h
    cases g with
    | nil => simp only [diffF] at h; injection h with h; subst h; simp <;> omega
    | cons n2 t2 es2 ks2 r2 =>
      simp only [diffF] at h
      simp only [Fo.wt]
      split at h
      · split at h
        · have := ih2 _ _ _ _ h; omega
        · split at h
          · rename_i y hy
            injection h with h
            subst h
            have := ih1 _ _ _ _ hy
            simp only [List.length_append, List.length_cons, List.length_nil] at this
            omega
          · have := ih2 _ _ _ _ h; omega
      · injection h with h; subst h; simp <;> omega
set_option maxHeartbeats 4000000 in
theorem sameWay_ok (l m : List Nat) (p q : Option Addr) (c d : Nat) (h1 : l.length ≤ 4194304) (h2 : m.length ≤ 4194304) (w : World) (hi : Im [] w p (ints l)) (hj : Im [] w q (ints m)) :
    PureC Tryd.prog 34 #[.slice p l.length c, .slice q m.length d] w (.bool (decide (l = m))) := by
  have hl1 := ints_len l
  have hl2 := ints_len m
  refine enter (l := [.slice p l.length c, .slice q m.length d]) Tryd.func34 rfl Tryd.ntmps34 (by kernel_rfl) rfl ?_
  refine sgo ?_
  (show WC _ _ _ _ _ _ _; first | refine WC_dec rfl (fun hc => ?_) (fun hc => ?_) | refine WC_cond rfl (fun hc => ?_) (fun hc => ?_))
  · refine sgo ?_
    (first | refine fp1 (.inl rfl) rfl rfl ?_ | refine fp2 (.inl rfl) rfl rfl rfl ?_ | refine fp3 (.inl rfl) rfl rfl rfl rfl ?_ | refine fp0 (.inr rfl) rfl ?_ | refine fp0 (.inl rfl) rfl ?_ | refine fp1 (.inr rfl) rfl rfl ?_); refine ⟨?_, by (first | exact Frm.refl _ | assumption | exact Go.Sv.Sep.frm (by assumption) | (refine Frm.trans ?_ (by assumption); first | exact Frm.refl _ | assumption))⟩; (try simp only [realB, rv_true, Nat.reduceBEq, cond_true, cond_false, entG, real_lif, updGL])
    rw [decide_eq_false]
    rintro rfl
    exact hc rfl
  have hle : l.length = m.length := by
    have : ¬ ((l.length : Int) ≠ m.length) := by simpa using hc
    omega
  clear hc
  refine sgo ?_
  refine wcloop (X := Nat) (fun i => [(0, .slice p l.length c), (1, .slice q m.length d), (12, int l.length), (13, int i)]) (fun i wr => i ≤ l.length ∧ l.take i = m.take i ∧ Frm w wr) (fun i => l.length - i) 0 ⟨rfl, rfl, rfl, rfl, trivial⟩ ⟨by omega, rfl, Frm.refl _⟩ ?_
  rintro i wr ρ ⟨hil, htk, hf⟩
  have hIr := hi.frm hf
  have hJr := hj.frm hf
  refine sgo ?_
  (show WC _ _ _ _ _ _ _; first | refine WC_dec rfl (fun hc => ?_) (fun hc => ?_) | refine WC_cond rfl (fun hc => ?_) (fun hc => ?_))
  · have hlt : i < l.length := by omega
    have hx : l[i]? = some l[i] := List.getElem?_eq_getElem hlt
    have hy : m[i]? = some m[i] := List.getElem?_eq_getElem (by omega)
    generalize l[i] = x at *
    generalize m[i] = y at *
    have g0 := ints_get hx
    have k0 := ints_get hy
    have hps : ∃ a, p = some a := hi.some (by omega)
    have hqs : ∃ a, q = some a := hj.some (by omega)
    clear hc
    refine sgo ?_
    (first | refine WC_seq ?_ | skip); refine wcdraw ?_
    refine qgo ?_
    refine QL_nil ?_; intro wd hwd
    have hfd := hf.trans hwd
    refine sgo ?_
    (show WC _ _ _ _ _ _ _; first | refine WC_dec rfl (fun hc => ?_) (fun hc => ?_) | refine WC_cond rfl (fun hc => ?_) (fun hc => ?_))
    · refine sgo ?_
      (first | refine fp1 (.inl rfl) rfl rfl ?_ | refine fp2 (.inl rfl) rfl rfl rfl ?_ | refine fp3 (.inl rfl) rfl rfl rfl rfl ?_ | refine fp0 (.inr rfl) rfl ?_ | refine fp0 (.inl rfl) rfl ?_ | refine fp1 (.inr rfl) rfl rfl ?_); refine ⟨?_, by (first | exact Frm.refl _ | assumption | exact Go.Sv.Sep.frm (by assumption) | (refine Frm.trans ?_ (by assumption); first | exact Frm.refl _ | assumption))⟩; (try simp only [realB, rv_true, Nat.reduceBEq, cond_true, cond_false, entG, real_lif, updGL])
      rw [decide_eq_false]
      rintro rfl
      rw [hx] at hy
      obtain rfl := Option.some.inj hy
      exact hc rfl
    · have hxy : x = y := by
        have : ¬ ((x : Int) ≠ y) := by simpa using hc
        omega
      refine sgo ?_
      refine ⟨i + 1, ⟨rfl, rfl, rfl, rfl, trivial⟩, ⟨by omega, ?_, hfd⟩, by omega⟩
      rw [← hxy] at hy
      exact take_eq_succ htk hx hy
  · obtain rfl : i = l.length := by omega
    refine sgo ?_
    (first | refine fp1 (.inl rfl) rfl rfl ?_ | refine fp2 (.inl rfl) rfl rfl rfl ?_ | refine fp3 (.inl rfl) rfl rfl rfl rfl ?_ | refine fp0 (.inr rfl) rfl ?_ | refine fp0 (.inl rfl) rfl ?_ | refine fp1 (.inr rfl) rfl rfl ?_); refine ⟨?_, by (first | exact Frm.refl _ | assumption | exact Go.Sv.Sep.frm (by assumption) | (refine Frm.trans ?_ (by assumption); first | exact Frm.refl _ | assumption))⟩; (try simp only [realB, rv_true, Nat.reduceBEq, cond_true, cond_false, entG, real_lif, updGL])
    rw [List.take_of_length_le (Nat.le_refl _), List.take_of_length_le (by omega)] at htk
    rw [decide_eq_true htk]
set_option maxHeartbeats 4000000 in
theorem domDiffW_ok (f g : FoM) (p q : Option Addr) (c dd : Nat) (hw : f.wt ≤ 1048576) (hw2 : g.wt ≤ 1048576) (w0 w : World) (cs : List Plot) (hS0 : Sep w0 w cs) (hT : Tre w p f) (hT2 : Tre w q g) :
    CallsR Tryd.prog 32 #[.slice p f.len c, .slice q g.len dd] w fun v w' => ∃ (q3 : Option Addr) (c3 : Nat), v = .tuple #[.slice q3 ((diffF f.fo g.fo [] 0).getD []).length c3, .bool (diffF f.fo g.fo [] 0).isSome] ∧ Sep w0 w' (pRow 1 q3 ((diffF f.fo g.fo [] 0).getD []).length c3 (ints ((diffF f.fo g.fo [] 0).getD [])) :: cs) := by
  have hsz := size_wt f
  refine enter (l := [.slice p f.len c, .slice q g.len dd]) Tryd.func32 rfl Tryd.ntmps32 (by kernel_rfl) rfl ?_
  refine sgo ?_
  refine wlcall (domDiff_ok (f.size + 1) f g p q c dd (Nat.lt_succ_self _) hw hw2 [] none 0 (by simp; omega) w0 w cs hS0 (Im.nil _ _ _) hT hT2) ?_
  rintro _ w1 ⟨q3, c3, rfl, hS⟩
  refine sgo ?_
  (first | refine fp1 (.inl rfl) rfl rfl ?_ | refine fp2 (.inl rfl) rfl rfl rfl ?_ | refine fp3 (.inl rfl) rfl rfl rfl rfl ?_ | refine fp0 (.inr rfl) rfl ?_ | refine fp0 (.inl rfl) rfl ?_ | refine fp1 (.inr rfl) rfl rfl ?_)
  exact ⟨q3, c3, rfl, hS⟩
set_option maxHeartbeats 8000000 in
theorem domDiffs_ok (f g : FoM) (p q : Option Addr) (c d : Nat) (hw : f.wt ≤ 1048576) (hw2 : g.wt ≤ 1048576) (w : World) (hA : Asc w) (hT : Tre w p f) (hT2 : Tre w q g) : PureC Tryd.prog 7 #[.slice p f.len c, .slice q g.len d] w (.bool true) := by
  have hS := Sep.start w
  have hsz := size_wt f
  have hlen : ((diffF f.fo g.fo [] 0).getD []).length ≤ 4194304 := by
    cases hd : diffF f.fo g.fo [] 0 with
    | none => simp
    | some x =>
      have h1 := diff_len _ _ _ _ _ hd
      have h2 := wt_fo f
      simp only [List.length_nil] at h1
      simp only [Option.getD_some]
      omega
  refine enter (l := [.slice p f.len c, .slice q g.len d]) Tryd.func7 rfl Tryd.ntmps7 (by kernel_rfl) rfl ?_
  refine sgo ?_
  refine wlcall (domDiffW_ok f g p q c d hw hw2 w w _ hS hT hT2) ?_
  rintro _ w1 ⟨q1, c1, rfl, hS⟩
  refine sgo ?_
  refine wlcall (refDiff_ok (f.size + 1) f g p q c d (Nat.lt_succ_self _) hw hw2 [] none 0 (by simp; omega) w w1 _ hS (Im.nil _ _ _) (hT.frm hS.frm) (hT2.frm hS.frm)) ?_
  rintro _ w2 ⟨q2, c2, rfl, hS⟩
  refine sgo ?_
  have hR := domDiffW_ok g f q p d c hw2 hw w w2 _ hS (hT2.frm hS.frm) (hT.frm hS.frm)
  rw [diff_sym g.fo f.fo] at hR
  refine wlcall hR ?_
  clear hR
  rintro _ w3 ⟨q3, c3, rfl, hS⟩
  refine sgo ?_
  have hR := domDiffW_ok f f p p c c hw hw w w3 _ hS (hT.frm hS.frm) (hT.frm hS.frm)
  rw [diff_self] at hR
  refine wlcall hR ?_
  clear hR
  rintro _ w4 ⟨q4, c4, rfl, hS⟩
  have hdm := fun h1 h2 => diff_may (f := f.fo) (g := g.fo) h1 h2
  generalize hRl : (diffF f.fo g.fo [] 0).getD [] = R at *
  generalize (diffF f.fo g.fo [] 0).isSome = ok at *
  refine sgo ?_
  have hE := sameWay_ok R R q1 q2 c1 c2 hlen hlen w4 (hS.im 3 rfl) (hS.im 2 rfl)
  rw [decide_eq_true rfl] at hE
  refine wlcallgp (vals := [.slice q1 R.length c1, .slice q2 R.length c2]) (fun _ => hE) fun w5 hf5 => ?_
  clear hE
  replace hS := hS.grow hf5
  refine sgo ?_
  have hE := sameWay_ok R R q3 q1 c3 c1 hlen hlen w5 (hS.im 1 rfl) (hS.im 3 rfl)
  rw [decide_eq_true rfl] at hE
  refine wlcallgp (vals := [.slice q3 R.length c3, .slice q1 R.length c1]) (fun _ => hE) fun w6 hf6 => ?_
  clear hE
  replace hS := hS.grow hf6
  refine sgo ?_
  refine wcno ?_ (ht := by cases ok <;> rfl)
  refine sgo ?_
  refine wlpure (refMay21_ok (f.size + 1) f p c (Nat.lt_succ_self _) hw _ (hT.frm hS.frm)) fun w7 hf7 => ?_
  replace hS := hS.grow hf7
  refine sgo ?_
  refine wlcallgp (vals := [.slice q g.len d]) (fun _ => refMay21_ok (g.size + 1) g q d (Nat.lt_succ_self _) hw2 _ (hT2.frm hS.frm)) fun w8 hf8 => ?_
  replace hS := hS.grow hf8
  refine sgo ?_
  refine wlcallgp (vals := [.slice p f.len c, .slice q g.len d]) (fun _ => domEqual_ok (f.size + 1) f g p q c d (Nat.lt_succ_self _) hw hw2 _ (hT.frm hS.frm) (hT2.frm hS.frm)) fun w9 hf9 => ?_
  replace hS := hS.grow hf9
  refine sgo ?_
  refine wlcallgp (vals := []) (fun _ => lives21_ok _ (hA.frm hS.frm)) (fun w10 hf10 => ?_) (ha := fun _ => rfl)
  replace hS := hS.grow hf10
  refine sgo ?_
  (first | refine fp1 (.inl rfl) rfl rfl ?_ | refine fp2 (.inl rfl) rfl rfl rfl ?_ | refine fp3 (.inl rfl) rfl rfl rfl rfl ?_ | refine fp0 (.inr rfl) rfl ?_ | refine fp0 (.inl rfl) rfl ?_ | refine fp1 (.inr rfl) rfl rfl ?_); refine ⟨?_, by (first | exact Frm.refl _ | assumption | exact Go.Sv.Sep.frm (by assumption) | (refine Frm.trans ?_ (by assumption); first | exact Frm.refl _ | assumption))⟩; (try simp only [realB, rv_true, Nat.reduceBEq, cond_true, cond_false, entG, real_lif, updGL])
  cases h1 : f.fo.may with
  | false => rfl
  | true =>
    cases h2 : g.fo.may with
    | false => rfl
    | true =>
      rw [hdm h1 h2]
      cases decide (f.fo = g.fo) <;> rfl
end Go.Proofs.YtcdogceabkpnmaaDoor

