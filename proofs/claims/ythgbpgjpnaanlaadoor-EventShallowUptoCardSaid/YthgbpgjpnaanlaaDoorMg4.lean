/-
  Our texts SvEvW, SvEvX, SvFd, SvRf, SvEvY, SvEq, SvTabE, SvEvE, SvEvO, SvEvP, SvGen, SvEvU, SvEvV, SvVal, SvFe, SvEvZ, SvEvQ, SvEvR, SvEvS, SvEcA, SvEd, SvJn, SvGb, SvPt, SvEvT, SvPu, SvWk, SvTabF, joined.
-/
import Derived.Test.YthgbpgjpnaanlaaDoorMg3
import Derived.Laws.StructEq
import Derived.Test.YthgbpgjpnaanlaaDoorRows
/-
  Package event: walk.
-/
set_option linter.unusedSimpArgs false
set_option linter.unusedVariables false
set_option linter.unnecessarySimpa false
namespace Go.Proofs.YthgbpgjpnaanlaaDoor
open Go Go.Sv Go.RowKit

/-- the events alone -/
def evs (ms : List EvM) : List Ev := ms.map EvM.e
theorem evs_len (ms : List EvM) : (evs ms).length = ms.length := by simp [evs]
theorem evs_at {ms : List EvM} {i : Nat} {m : EvM} (h : ms[i]? = some m) : (evs ms)[i]? = some m.e := by simp [evs, h]
/-- how the first i nest -/
def lkI (ms : List EvM) (i : Nat) : Lk := lkR ((evs ms).take i)
theorem lkI_succ {ms : List EvM} {i : Nat} {m : EvM} (h : ms[i]? = some m) : lkI ms (i + 1) = lkStep (lkI ms i) m.e := lk_take (evs_at h)
theorem lkI_ok {ms : List EvM} {i : Nat} (hi : i ≤ ms.length) (h : (lkI ms i).err = 0) : (lkI ms i).at_ = 0 ∧ (lkI ms i).good = i ∧ (lkI ms i).stack.length ≤ i ∧ (lkI ms i).most ≤ i := by
  have := lk_ok h
  rw [List.length_take, evs_len, Nat.min_eq_left hi] at this
  exact this
theorem lkI_stop {ms : List EvM} {i : Nat} (h : (lkI ms i).err ≠ 0) : lkR (evs ms) = lkI ms i := lk_stop h
theorem lkI_all (ms : List EvM) : lkI ms ms.length = lkR (evs ms) := by rw [lkI, ← evs_len, List.take_length]

set_option maxHeartbeats 1000000 in
/-- walk, over whatever it is that sees -/
theorem walk_ok (ms : List EvM) (p : Option Addr) (c : Nat) (hn : ms.length ≤ 1048576) (hs : ∀ m ∈ ms, m.e.small) (f : FuncId) [hf : Fnc Tryd.prog f] (cap : List Value) (B : Nat) (J Jx : Nat → World → Prop)
    (hJE : ∀ i w, J i w → Evs w p ms ∧ Asc w) (hst : ∀ i w1 w2, J i w1 → Same B w1 w2 → J i w2) (hstx : ∀ i w1 w2, Jx i w1 → Same B w1 w2 → Jx i w2)
    (hsee : ∀ i w1 m, J i w1 → ms[i]? = some m → (lkI ms i).err = 0 → (lkI ms (i + 1)).err = 0 → CallsR Tryd.prog f ([int (lkI ms i).stack.length, .agg ⟨m.cells⟩] ++ cap).toArray w1 fun v w2 => ∃ bb N, v = .bool bb ∧ Le N w1 w2 ∧ (∀ x ∈ N, x < B) ∧ if bb then J (i + 1) w2 else Jx i w2)
    (w : World) (hB : B = w.heap.size) (h0 : J 0 w) :
    CallsR Tryd.prog 43 #[.slice p ms.length c, .func (.func f) #[] ⟨cap⟩] w fun v w' =>
      (J (lkR (evs ms)).good w' ∧ (lkR (evs ms)).err ≠ 0 ∧ v = .tuple #[int (lkR (evs ms)).at_, int (lkR (evs ms)).err, .slice none 0 0]) ∨
      (J ms.length w' ∧ (lkR (evs ms)).err = 0 ∧ ∃ q cc w0, v = .tuple #[int 0, int 0, .slice q (lkR (evs ms)).stack.length cc] ∧ w0.heap.size = B ∧ Sep w0 w' [pRow 1 q (lkR (evs ms)).stack.length cc (strs (lkR (evs ms)).stack)]) ∨
      ∃ i q n cc, i < ms.length ∧ (lkI ms (i + 1)).err = 0 ∧ Jx i w' ∧ v = .tuple #[int 0, int 0, .slice q n cc] := by
  refine enter (l := [.slice p ms.length c, .func (.func f) #[] ⟨cap⟩]) Tryd.func43 rfl Tryd.ntmps43 (by kernel_rfl) rfl ?_
  have hS := Sep.start w
  refine sgo ?_
  refine salloc hS fun b7 w7 hS => ?_
  replace hS : Sep w w7 [pOwn b7 [.slice none 0 0]] := hS
  replace hS := (hS.push (c := pRow 1 none 0 0 (strs [])) (Frm.refl w7) (Row.nil w7 1) (by simp [pRow, rb])).front 1 rfl
  have hJ7 := hst 0 _ _ h0 (hB ▸ Same.of_frm (Frm.refl w) hS.frm)
  refine sgo ?_
  refine wcloop (X := Nat × Option Addr × Nat) (fun x => [(1, .func (.func f) #[] ⟨cap⟩), (4, int 0), (5, int 0), (6, .slice none 0 0), (7, ptrAt (pb b7) 0), (13, .slice p ms.length c), (14, int ms.length), (15, int x.1)])
    (fun x wr => x.1 ≤ ms.length ∧ (lkI ms x.1).err = 0 ∧ J x.1 wr ∧ ∃ w0, w0.heap.size = B ∧ Sep w0 wr [pOwn b7 [.slice x.2.1 (lkI ms x.1).stack.length x.2.2], pRow 1 x.2.1 (lkI ms x.1).stack.length x.2.2 (strs (lkI ms x.1).stack)])
    (fun x => ms.length - x.1) (0, none, 0) ⟨rfl, rfl, rfl, rfl, rfl, rfl, rfl, rfl, trivial⟩ ⟨Nat.zero_le _, rfl, hJ7, w, hB.symm, hS⟩ ?_
  clear hS hJ7 h0
  rintro ⟨i, q, cc⟩ wr ρ ⟨hil, herr, hJ, w0, hw0, hS⟩
  dsimp only at *
  have hok := lkI_ok hil herr
  have hE := (hJE i wr hJ).1
  have hA := (hJE i wr hJ).2
  refine sgo ?_
  (show WC _ _ _ _ _ _ _; first | refine WC_dec rfl (fun hc => ?_) (fun hc => ?_) | refine WC_cond rfl (fun hc => ?_) (fun hc => ?_))
  · have hlt : i < ms.length := by omega
    have hx : ms[i]? = some ms[i] := List.getElem?_eq_getElem hlt
    have hmem : ms[i] ∈ ms := List.getElem_mem hlt
    have hseg := fm_seg EvM.len ms hx
    have hfl := fm_len EvM.len ms
    have hat := hE.each _ hmem
    have hsm := hs _ hmem
    have hps : ∃ a, p = some a := hE.im.sg.some (by omega)
    have hSg := hE.im.sg
    have hsuc := lkI_succ hx
    generalize ms[i] = m at *
    generalize hk : lkI ms i = k at *
    clear hc
    have hJat : ∀ w' ds, Sep w0 w' ds → J i w' := fun w' ds h => hst i wr w' hJ (hw0 ▸ Same.of_sep hS h)
    clear hat
    obtain ⟨⟨kd, nm, tx, es⟩, mp, mc⟩ := m
    refine sgo ?_
    rw [hseg]
    refine salloc hS fun b9 w9 hS => ?_
    refine sgo ?_
    refine ssta (vs := [int kd, str nm, str tx, .slice mp es.length mc]) hS 0 fun w10 hS => ?_
    replace hS : Sep w0 w10 [pOwn b9 [int kd, str nm, str tx, .slice mp es.length mc], pOwn b7 [.slice q k.stack.length cc], pRow 1 q k.stack.length cc (strs k.stack)] := hS
    have h10 := hJE i _ (hJat _ _ hS)
    refine sgo ?_
    refine wlpure (evCheck_ok ⟨kd, nm, tx, es⟩ mp mc hsm w10 h10.2 (h10.1.each _ hmem)) fun w11 hf11 => ?_
    replace hS := hS.grow hf11
    have hst1 : evR ⟨kd, nm, tx, es⟩ = false → lkStep k ⟨kd, nm, tx, es⟩ = { k with at_ := k.good, err := 180 } := by
      intro he; simp [lkStep, herr, he]
    cases he : evR ⟨kd, nm, tx, es⟩ with
    | false =>
      have hend := lkI_stop (ms := ms) (i := i + 1) (by rw [hsuc]; dsimp only; rw [hst1 he]; simp)
      rw [hsuc] at hend
      dsimp only at hend
      rw [hst1 he] at hend
      refine sgo ?_
      (first | refine fp1 (.inl rfl) rfl rfl ?_ | refine fp2 (.inl rfl) rfl rfl rfl ?_ | refine fp3 (.inl rfl) rfl rfl rfl rfl ?_ | refine fp0 (.inr rfl) rfl ?_ | refine fp0 (.inl rfl) rfl ?_ | refine fp1 (.inr rfl) rfl rfl ?_)
      refine .inl ⟨?_, ?_, ?_⟩
      · rw [hend]; exact hok.2.1 ▸ hJat _ _ hS
      · rw [hend]; exact (by decide : (180 : Int) ≠ 0)
      · rw [hend]; show _ = Value.tuple #[int k.good, int 180, .slice none 0 0]; rw [hok.2.1]; rfl
    | true =>
      refine sgo ?_
      refine wcutt (X := Unit) (fun _ => [(1, .func (.func f) #[] ⟨cap⟩), (4, int 0), (5, int 0), (6, .slice none 0 0), (7, ptrAt (pb b7) 0), (8, int i), (9, ptrAt (pb b9) 0), (13, .slice p ms.length c), (14, int ms.length), (15, int i)])
        (fun _ w' => (lkStep k ⟨kd, nm, tx, es⟩).err = 0 ∧ Sep w0 w' [pOwn b9 [int kd, str nm, str tx, .slice mp es.length mc], pOwn b7 [.slice q k.stack.length cc], pRow 1 q k.stack.length cc (strs k.stack)]) ?_ ?_
      · (show WC _ _ _ _ _ _ _; first | refine WC_dec rfl (fun hc => ?_) (fun hc => ?_) | refine WC_cond rfl (fun hc => ?_) (fun hc => ?_))
        · replace hc : kd = 2 := hc
          subst hc
          refine sgo ?_
          refine wlpure (top_ok b7 q cc k.stack (by omega) w0 w11 [] hS.tail) fun w12 hf12 => ?_
          replace hS := hS.grow hf12
          have h3 : lkStep k ⟨2, nm, tx, es⟩ = if k.stack.getLast? = some nm then ⟨k.stack.dropLast, k.most, 0, 0, k.good + 1⟩ else { k with at_ := k.good, err := 181 } := by
            simp [lkStep, herr, he]
          refine sgo ?_
          have hB2 : pkb (!(!decide (k.stack = []))) true (decide (k.stack.getLast?.getD [] ≠ nm)) = !decide (k.stack.getLast? = some nm) := by
            cases hl : k.stack.getLast? with
            | none => rw [List.getLast?_eq_none_iff.1 hl]; rfl
            | some z =>
              have hne : k.stack ≠ [] := by intro h; rw [h] at hl; cases hl
              simp [hne, pkb]
          rw [hB2]
          by_cases hl : k.stack.getLast? = some nm
          · rw [if_pos hl] at h3
            simp only [hl, decide_true, Bool.not_true]
            refine sgo ?_
            exact ⟨(), ⟨rfl, rfl, rfl, rfl, rfl, rfl, rfl, rfl, rfl, rfl, trivial⟩, by rw [h3], hS⟩
          · rw [if_neg hl] at h3
            have hend := lkI_stop (ms := ms) (i := i + 1) (by rw [hsuc]; dsimp only; rw [h3]; exact (by decide : (181 : Int) ≠ 0))
            rw [hsuc] at hend
            dsimp only at hend
            rw [h3] at hend
            simp only [hl, decide_false, Bool.not_false]
            refine sgo ?_
            (first | refine fp1 (.inl rfl) rfl rfl ?_ | refine fp2 (.inl rfl) rfl rfl rfl ?_ | refine fp3 (.inl rfl) rfl rfl rfl rfl ?_ | refine fp0 (.inr rfl) rfl ?_ | refine fp0 (.inl rfl) rfl ?_ | refine fp1 (.inr rfl) rfl rfl ?_)
            refine .inl ⟨?_, ?_, ?_⟩
            · rw [hend]; exact hok.2.1 ▸ hJat _ _ hS
            · rw [hend]; exact (by decide : (181 : Int) ≠ 0)
            · rw [hend]; show _ = Value.tuple #[int k.good, int 181, .slice none 0 0]; rw [hok.2.1]; rfl
        · replace hc : ¬ kd = 2 := hc
          refine sgo ?_
          refine ⟨(), ⟨rfl, rfl, rfl, rfl, rfl, rfl, rfl, rfl, rfl, rfl, trivial⟩, ?_, hS⟩
          simp only [lkStep, herr, he, if_true, if_neg hc]
          split <;> (try split) <;> rfl
      · clear hS
        rintro _ w12 ρ2 ⟨hright, hS⟩
        obtain ⟨-, hstep⟩ := lk_right herr hright
        dsimp only at hsuc
        have hsee' := hsee i w12 _ (hJat _ _ hS) hx (by rw [hk]; exact herr) (by rw [hsuc]; exact hright)
        rw [hk] at hsee'
        refine sgo ?_
        refine wlcallv (f := f) (first := []) (args := [int k.stack.length, .agg ⟨EvM.cells ⟨⟨kd, nm, tx, es⟩, mp, mc⟩⟩]) (cap := cap) hsee' ?_
        rintro _ w13 ⟨bb, N, rfl, hle, hN, hpost⟩
        obtain ⟨w1, hw1, hS⟩ := hS.rebase hle (by rw [hw0]; exact hN)
        rw [hw0] at hw1
        cases bb with
        | false =>
          simp only [Bool.false_eq_true, if_false] at hpost
          refine sgo ?_
          refine wcdraw ?_
          refine qgo ?_
          refine QL_nil ?_
          intro w14 hf14
          have hS4 := hS.grow hf14
          refine sgo ?_
          (first | refine fp1 (.inl rfl) rfl rfl ?_ | refine fp2 (.inl rfl) rfl rfl rfl ?_ | refine fp3 (.inl rfl) rfl rfl rfl rfl ?_ | refine fp0 (.inr rfl) rfl ?_ | refine fp0 (.inl rfl) rfl ?_ | refine fp1 (.inr rfl) rfl rfl ?_)
          exact .inr (.inr ⟨i, q, k.stack.length, cc, hlt, by rw [hsuc]; exact hright, hstx i _ _ hpost (hw1 ▸ Same.of_sep hS hS4), rfl⟩)
        | true =>
          simp only [if_true] at hpost
          have hjn : ∀ w' ds, Sep w1 w' ds → J (i + 1) w' := fun w' ds h => hst _ _ _ hpost (hw1 ▸ Same.of_sep hS h)
          refine sgo ?_
          (show WC _ _ _ _ _ _ _; first | refine WC_dec rfl (fun hc => ?_) (fun hc => ?_) | refine WC_cond rfl (fun hc => ?_) (fun hc => ?_))
          · replace hc : kd = 1 := hc
            subst hc
            refine sgo ?_
            refine wlcall (push_ok b7 q cc k.stack nm (by omega) w1 w13 [] hS.tail) ?_
            rintro _ w14 ⟨q', c', hS⟩
            refine sgo ?_
            refine ⟨(i + 1, q', c'), ⟨rfl, rfl, rfl, rfl, rfl, rfl, rfl, rfl, trivial⟩, ⟨hlt, by dsimp only; rw [hsuc]; exact hright, hjn _ _ hS, w1, hw1, ?_⟩, (by (try dsimp only); omega)⟩
            dsimp only
            rw [hsuc, hstep]
            exact hS
          · replace hc : ¬ kd = 1 := hc
            have hk1 := hc
            clear hc
            refine sgo ?_
            (show WC _ _ _ _ _ _ _; first | refine WC_dec rfl (fun hc => ?_) (fun hc => ?_) | refine WC_cond rfl (fun hc => ?_) (fun hc => ?_))
            · replace hc : kd = 2 := hc
              subst hc
              have hne : k.stack ≠ [] := by
                intro h
                revert hright
                simp [lkStep, herr, he, h]
              refine sgo ?_
              refine wlcall (pop_ok b7 q cc k.stack (by omega) hne w1 w13 [] hS.tail) ?_
              rintro _ w14 hS
              refine sgo ?_
              refine ⟨(i + 1, q, cc), ⟨rfl, rfl, rfl, rfl, rfl, rfl, rfl, rfl, trivial⟩, ⟨hlt, by dsimp only; rw [hsuc]; exact hright, hjn _ _ hS, w1, hw1, ?_⟩, (by (try dsimp only); omega)⟩
              dsimp only
              rw [hsuc, hstep]
              exact hS
            · replace hc : ¬ kd = 2 := hc
              have hk2 := hc
              clear hc
              refine sgo ?_
              refine ⟨(i + 1, q, cc), ⟨rfl, rfl, rfl, rfl, rfl, rfl, rfl, rfl, trivial⟩, ⟨hlt, by dsimp only; rw [hsuc]; exact hright, hjn _ _ hS, w1, hw1, ?_⟩, (by (try dsimp only); omega)⟩
              dsimp only
              rw [hsuc, hstep]
              dsimp only
              rw [if_neg hk1, if_neg hk2]
              exact hS.tail
  · obtain rfl : i = ms.length := by omega
    rw [lkI_all] at *
    clear hc
    refine sgo ?_
    refine wcdraw ?_
    refine qgo ?_
    refine QL_nil ?_
    intro w1 hf1
    have hS4 := hS.grow hf1
    refine sgo ?_
    (first | refine fp1 (.inl rfl) rfl rfl ?_ | refine fp2 (.inl rfl) rfl rfl rfl ?_ | refine fp3 (.inl rfl) rfl rfl rfl rfl ?_ | refine fp0 (.inr rfl) rfl ?_ | refine fp0 (.inl rfl) rfl ?_ | refine fp1 (.inr rfl) rfl rfl ?_)
    exact .inr (.inl ⟨hst _ _ _ hJ (hw0 ▸ Same.of_sep hS hS4), herr, q, cc, w0, rfl, hw0, hS4.tail⟩)
end Go.Proofs.YthgbpgjpnaanlaaDoor

/-
  Package event: Nested, Open, Depth.
-/
set_option linter.unusedSimpArgs false
set_option linter.unusedVariables false
set_option linter.unnecessarySimpa false
namespace Go.Proofs.YthgbpgjpnaanlaaDoor
open Go Go.Sv Go.RowKit

theorem all_ok0 (d : Int) (e : Ev) (p : Option Addr) (c : Nat) (w : World) : PureC Tryd.prog 44 #[int d, .agg ⟨e.cells p c⟩] w (.bool true) := by
  refine enter (l := [int d, .agg ⟨e.cells p c⟩]) Tryd.func44 rfl Tryd.ntmps44 (by kernel_rfl) rfl ?_
  have hS := Sep.start w
  refine sgo ?_
  refine sbox (v := .agg ⟨e.cells p c⟩) hS fun b w1 hS => ?_
  refine sgo ?_
  (first | refine fp1 (.inl rfl) rfl rfl ?_ | refine fp2 (.inl rfl) rfl rfl rfl ?_ | refine fp3 (.inl rfl) rfl rfl rfl rfl ?_ | refine fp0 (.inr rfl) rfl ?_ | refine fp0 (.inl rfl) rfl ?_ | refine fp1 (.inr rfl) rfl rfl ?_); refine ⟨?_, by (first | exact Frm.refl _ | assumption | exact Go.Sv.Sep.frm (by assumption) | (refine Frm.trans ?_ (by assumption); first | exact Frm.refl _ | assumption))⟩; (try simp only [realB, rv_true, Nat.reduceBEq, cond_true, cond_false, entG, real_lif, updGL])
/-- walk, that nobody looks at -/
theorem walkAll_ok (ms : List EvM) (p : Option Addr) (c : Nat) (hn : ms.length ≤ 1048576) (hs : ∀ m ∈ ms, m.e.small) (w : World) (hA : Asc w) (hE : Evs w p ms) :
    CallsR Tryd.prog 43 #[.slice p ms.length c, .func (.func 44) #[] #[]] w fun v w' => Frm w w' ∧
      (((lkR (evs ms)).err ≠ 0 ∧ v = .tuple #[int (lkR (evs ms)).at_, int (lkR (evs ms)).err, .slice none 0 0]) ∨
      ((lkR (evs ms)).err = 0 ∧ ∃ q cc, v = .tuple #[int 0, int 0, .slice q (lkR (evs ms)).stack.length cc] ∧ Sep w w' [pRow 1 q (lkR (evs ms)).stack.length cc (strs (lkR (evs ms)).stack)])) := by
  refine CallsR.mono (walk_ok ms p c hn hs 44 [] w.heap.size (fun _ w' => Frm w w') (fun _ _ => False) (fun _ w' h => ⟨hE.frm h, hA.frm h⟩) (fun _ _ _ h h' => h'.frm h) (fun _ _ _ h _ => h)
    (fun i w1 m h _ _ _ => ?_) w rfl (Frm.refl w)) ?_
  · refine CallsR.mono (all_ok0 _ m.e m.p m.c w1) ?_
    rintro v w2 ⟨rfl, hf⟩
    exact ⟨true, [], rfl, hf.le, by simp, h.trans hf⟩
  · rintro v w' (⟨h1, h2, h3⟩ | ⟨h1, h2, q, cc, w0, h3, h4, h5⟩ | ⟨i, q, n, cc, _, _, h, _⟩)
    · exact ⟨h1, .inl ⟨h2, h3⟩⟩
    · refine ⟨h1, .inr ⟨h2, q, cc, h3, h1, h5.ok, fun c hc x hx => ?_, h5.apart⟩⟩
      rw [← h4]; exact h5.low c hc x hx
    · exact h.elim
theorem nested_ok (ms : List EvM) (p : Option Addr) (c : Nat) (hn : ms.length ≤ 1048576) (hs : ∀ m ∈ ms, m.e.small) (w : World) (hA : Asc w) (hE : Evs w p ms) :
    PureC Tryd.prog 15 #[.slice p ms.length c] w (.tuple #[int (lkR (evs ms)).at_, int (lkR (evs ms)).err]) := by
  refine enter (l := [.slice p ms.length c]) Tryd.func15 rfl Tryd.ntmps15 (by kernel_rfl) rfl ?_
  refine sgo ?_
  refine wlcall (walkAll_ok ms p c hn hs w hA hE) ?_
  rintro _ w1 ⟨hf, ⟨h2, rfl⟩ | ⟨h2, q, cc, rfl, hS⟩⟩
  · refine sgo ?_
    (first | refine fp1 (.inl rfl) rfl rfl ?_ | refine fp2 (.inl rfl) rfl rfl rfl ?_ | refine fp3 (.inl rfl) rfl rfl rfl rfl ?_ | refine fp0 (.inr rfl) rfl ?_ | refine fp0 (.inl rfl) rfl ?_ | refine fp1 (.inr rfl) rfl rfl ?_); refine ⟨?_, by (first | exact Frm.refl _ | assumption | exact Go.Sv.Sep.frm (by assumption) | (refine Frm.trans ?_ (by assumption); first | exact Frm.refl _ | assumption))⟩; (try simp only [realB, rv_true, Nat.reduceBEq, cond_true, cond_false, entG, real_lif, updGL])
  · have h0 := (lk_ok h2).1
    refine sgo ?_
    (first | refine fp1 (.inl rfl) rfl rfl ?_ | refine fp2 (.inl rfl) rfl rfl rfl ?_ | refine fp3 (.inl rfl) rfl rfl rfl rfl ?_ | refine fp0 (.inr rfl) rfl ?_ | refine fp0 (.inl rfl) rfl ?_ | refine fp1 (.inr rfl) rfl rfl ?_); refine ⟨?_, by (first | exact Frm.refl _ | assumption | exact Go.Sv.Sep.frm (by assumption) | (refine Frm.trans ?_ (by assumption); first | exact Frm.refl _ | assumption))⟩; (try simp only [realB, rv_true, Nat.reduceBEq, cond_true, cond_false, entG, real_lif, updGL])
    rw [h0, h2]; rfl
theorem open_ok (ms : List EvM) (p : Option Addr) (c : Nat) (hn : ms.length ≤ 1048576) (hs : ∀ m ∈ ms, m.e.small) (w : World) (hA : Asc w) (hE : Evs w p ms) :
    CallsR Tryd.prog 16 #[.slice p ms.length c] w fun v w' => Frm w w' ∧
      (((lkR (evs ms)).err ≠ 0 ∧ v = .tuple #[.slice none 0 0, int (lkR (evs ms)).err]) ∨
      ((lkR (evs ms)).err = 0 ∧ ∃ q cc, v = .tuple #[.slice q (lkR (evs ms)).stack.length cc, int 0] ∧ Sep w w' [pRow 1 q (lkR (evs ms)).stack.length cc (strs (lkR (evs ms)).stack)])) := by
  refine enter (l := [.slice p ms.length c]) Tryd.func16 rfl Tryd.ntmps16 (by kernel_rfl) rfl ?_
  refine sgo ?_
  refine wlcall (walkAll_ok ms p c hn hs w hA hE) ?_
  rintro _ w1 ⟨hf, ⟨h2, rfl⟩ | ⟨h2, q, cc, rfl, hS⟩⟩
  · refine sgo ?_
    (first | refine fp1 (.inl rfl) rfl rfl ?_ | refine fp2 (.inl rfl) rfl rfl rfl ?_ | refine fp3 (.inl rfl) rfl rfl rfl rfl ?_ | refine fp0 (.inr rfl) rfl ?_ | refine fp0 (.inl rfl) rfl ?_ | refine fp1 (.inr rfl) rfl rfl ?_)
    exact ⟨hf, .inl ⟨h2, rfl⟩⟩
  · refine sgo ?_
    (first | refine fp1 (.inl rfl) rfl rfl ?_ | refine fp2 (.inl rfl) rfl rfl rfl ?_ | refine fp3 (.inl rfl) rfl rfl rfl rfl ?_ | refine fp0 (.inr rfl) rfl ?_ | refine fp0 (.inl rfl) rfl ?_ | refine fp1 (.inr rfl) rfl rfl ?_)
    exact ⟨hf, .inr ⟨h2, q, cc, rfl, hS⟩⟩

def mostR (m d : Nat) (k : Int) : Nat := if k = 1 ∨ k = 3 then max m (d + 1) else m
set_option maxHeartbeats 1000000 in
theorem depth1_ok (d : Nat) (e : Ev) (p : Option Addr) (c : Nat) (b : Nat) (m : Nat) (hd : d ≤ 1048576) (w : World) (ho : Own w b [int m]) :
    CallsR Tryd.prog 45 #[int d, .agg ⟨e.cells p c⟩, ptrAt (pb b) 0] w fun v w' => v = .bool true ∧ Own w' b [int (mostR m d e.kind)] ∧ Le [b] w w' := by
  obtain ⟨k, nm, tx, es⟩ := e
  refine enter (l := [int d, .agg ⟨Ev.cells ⟨k, nm, tx, es⟩ p c⟩, ptrAt (pb b) 0]) Tryd.func45 rfl Tryd.ntmps45 (by kernel_rfl) rfl ?_
  refine sgo ?_
  refine wlbox (v := .agg ⟨Ev.cells ⟨k, nm, tx, es⟩ p c⟩) (hx := rfl) fun b4 w1 hb4 o4 hf1 => ?_
  have o1 := ho.frm hf1
  replace o4 : Own w1 b4 [int k, str nm, str tx, .slice p es.length c] := o4
  refine sgo ?_
  have hB : pkb (decide (k = 1)) true (decide (k = 3)) = decide (k = 1 ∨ k = 3) := by simp [pkb_or]
  rw [hB]
  (show WC _ _ _ _ _ _ _; first | refine WC_dec rfl (fun hc => ?_) (fun hc => ?_) | refine WC_cond rfl (fun hc => ?_) (fun hc => ?_))
  · have hk : k = 1 ∨ k = 3 := hc
    clear o4
    refine sgo ?_
    refine wl ?_ (y_max rfl rfl)
    refine wlst_int o1 (fun w2 o2 hl2 => ?_) 
    refine sgo ?_
    (first | refine fp1 (.inl rfl) rfl rfl ?_ | refine fp2 (.inl rfl) rfl rfl rfl ?_ | refine fp3 (.inl rfl) rfl rfl rfl rfl ?_ | refine fp0 (.inr rfl) rfl ?_ | refine fp0 (.inl rfl) rfl ?_ | refine fp1 (.inr rfl) rfl rfl ?_)
    refine ⟨rfl, ?_, (hf1.le).trans hl2⟩
    have e : (max (m : Int) (d + 1)) = ((mostR m d k : Nat) : Int) := by rw [mostR, if_pos hk]; omega
    rw [← e]; exact o2
  · have hk : ¬ (k = 1 ∨ k = 3) := hc
    refine sgo ?_
    (first | refine fp1 (.inl rfl) rfl rfl ?_ | refine fp2 (.inl rfl) rfl rfl rfl ?_ | refine fp3 (.inl rfl) rfl rfl rfl rfl ?_ | refine fp0 (.inr rfl) rfl ?_ | refine fp0 (.inl rfl) rfl ?_ | refine fp1 (.inr rfl) rfl rfl ?_)
    refine ⟨rfl, ?_, hf1.le⟩
    rw [mostR, if_neg hk]; exact o1
theorem lk_most {k : Lk} {e : Ev} (h0 : k.err = 0) (h : (lkStep k e).err = 0) : (lkStep k e).most = mostR k.most k.stack.length e.kind := by rw [(lk_right h0 h).2]; rfl
set_option maxHeartbeats 1000000 in
theorem depth_ok (ms : List EvM) (p : Option Addr) (c : Nat) (hn : ms.length ≤ 1048576) (hs : ∀ m ∈ ms, m.e.small) (w : World) (hA : Asc w) (hE : Evs w p ms) :
    PureC Tryd.prog 17 #[.slice p ms.length c] w (if (lkR (evs ms)).err = 0 then .tuple #[int (lkR (evs ms)).most, int 0] else .tuple #[int 0, int (lkR (evs ms)).err]) := by
  refine enter (l := [.slice p ms.length c]) Tryd.func17 rfl Tryd.ntmps17 (by kernel_rfl) rfl ?_
  refine sgo ?_
  refine wlalloc fun b4 w4 hb4 o4 hf4 => ?_
  replace o4 : Own w4 b4 [int 0] := o4
  refine sgo ?_
  refine wlst_int o4 (fun w5 o5 hl5 => ?_)
  replace o5 : Own w5 b4 [int ((0 : Nat) : Int)] := o5
  have hf5 : Frm w w5 := hf4.step hl5 (by simpa using hb4)
  have hlt := o5.lt
  refine sgo ?_
  refine wlcall (walk_ok ms p c hn hs 45 [ptrAt (pb b4) 0] w5.heap.size (fun i w' => Own w' b4 [int (lkI ms i).most] ∧ Frm w w') (fun _ _ => False) (fun _ w' h => ⟨hE.frm h.2, hA.frm h.2⟩)
    (fun _ w1 w2 h h' => ⟨h.1.same h' hlt, ?_⟩) (fun _ _ _ h _ => h) (fun i w1 m h hx h0 h1 => ?_) w5 rfl ⟨o5, hf5⟩) ?_
  · exact ⟨h'.os.trans h.2.os, h'.tape.trans h.2.tape, h'.output.trans h.2.output, Nat.le_trans hf5.size h'.size, fun k hk => (h'.block k (Nat.lt_of_lt_of_le hk hf5.size)).trans (h.2.block k hk)⟩
  · have hlen : i < ms.length := by
      rcases Nat.lt_or_ge i ms.length with h | h
      · exact h
      · rw [List.getElem?_eq_none h] at hx; cases hx
    have hb := lkI_ok (Nat.le_of_lt hlen) h0
    refine CallsR.mono (depth1_ok (lkI ms i).stack.length m.e m.p m.c b4 (lkI ms i).most (by omega) w1 h.1) ?_
    rintro v w2 ⟨rfl, ho, hl⟩
    refine ⟨true, [b4], rfl, hl, by simpa using hlt, ?_⟩
    rw [if_pos rfl, lkI_succ hx, lk_most h0 (by rw [← lkI_succ hx]; exact h1)]
    exact ⟨ho, h.2.step hl (by simpa using hb4)⟩
  · rintro v w' (⟨⟨h1, hf⟩, h2, rfl⟩ | ⟨⟨h1, hf⟩, h2, q, cc, w0, rfl, h4, h5⟩ | ⟨i, q, n, cc, _, _, h, _⟩)
    · rw [if_neg h2]
      refine sgo ?_
      refine wcyes ?_ (ht := by simpa using h2)
      refine sgo ?_
      (first | refine fp1 (.inl rfl) rfl rfl ?_ | refine fp2 (.inl rfl) rfl rfl rfl ?_ | refine fp3 (.inl rfl) rfl rfl rfl rfl ?_ | refine fp0 (.inr rfl) rfl ?_ | refine fp0 (.inl rfl) rfl ?_ | refine fp1 (.inr rfl) rfl rfl ?_); refine ⟨?_, by (first | exact Frm.refl _ | assumption | exact Go.Sv.Sep.frm (by assumption) | (refine Frm.trans ?_ (by assumption); first | exact Frm.refl _ | assumption))⟩; (try simp only [realB, rv_true, Nat.reduceBEq, cond_true, cond_false, entG, real_lif, updGL])
    · rw [if_pos h2]
      rw [lkI_all] at h1
      refine sgo ?_
      (first | refine fp1 (.inl rfl) rfl rfl ?_ | refine fp2 (.inl rfl) rfl rfl rfl ?_ | refine fp3 (.inl rfl) rfl rfl rfl rfl ?_ | refine fp0 (.inr rfl) rfl ?_ | refine fp0 (.inl rfl) rfl ?_ | refine fp1 (.inr rfl) rfl rfl ?_); refine ⟨?_, by (first | exact Frm.refl _ | assumption | exact Go.Sv.Sep.frm (by assumption) | (refine Frm.trans ?_ (by assumption); first | exact Frm.refl _ | assumption))⟩; (try simp only [realB, rv_true, Nat.reduceBEq, cond_true, cond_false, entG, real_lif, updGL])
    · exact h.elim
end Go.Proofs.YthgbpgjpnaanlaaDoor

/-
  Events folded into trees: the plain part.
-/
set_option linter.unusedSimpArgs false
set_option linter.unusedVariables false
set_option linter.unnecessarySimpa false
namespace Go.Proofs.YthgbpgjpnaanlaaDoor
open Go Go.Sv Go.RowKit

structure Nd where
  name : List UInt8
  text : List UInt8
  attrs : List At
  kids : Fo
def Fo.list : Fo → List Nd
  | .nil => []
  | .cons n t es ks r => ⟨n, t, es, ks⟩ :: r.list
def Fo.of : List Nd → Fo
  | [] => .nil
  | m :: l => .cons m.name m.text m.attrs m.kids (of l)
theorem Fo.list_of (l : List Nd) : (Fo.of l).list = l := by
  induction l with
  | nil => rfl
  | cons m l ih => simp only [of, list, ih]
def dNd (m : Nd) : Nat := if m.name = [] then 0 else 1 + m.kids.depth
def dN : List Nd → Nat
  | [] => 0
  | m :: l => max (dNd m) (dN l)
theorem dN_of (l : List Nd) : (Fo.of l).depth = dN l := by
  induction l with
  | nil => rfl
  | cons m l ih => simp only [Fo.of, Fo.depth, dN, dNd, ih]
theorem dN_snoc (l : List Nd) (m : Nd) : dN (l ++ [m]) = max (dN l) (dNd m) := by
  induction l with
  | nil => simp [dN]
  | cons x l ih => simp only [List.cons_append, dN, ih]; omega
/-- a text behind others -/
def pushT (out : List Nd) (t : List UInt8) : List Nd :=
  match out.getLast? with
  | some m => if m.name = [] then out.dropLast ++ [{ m with text := m.text ++ t }] else out ++ [⟨[], t, [], .nil⟩]
  | none => [⟨[], t, [], .nil⟩]
theorem pushT_snoc (l : List Nd) (m : Nd) (t : List UInt8) : pushT (l ++ [m]) t = if m.name = [] then l ++ [{ m with text := m.text ++ t }] else l ++ [m] ++ [⟨[], t, [], .nil⟩] := by
  simp [pushT]
theorem dN_pushT (out : List Nd) (t : List UInt8) : dN (pushT out t) = dN out := by
  rcases List.eq_nil_or_concat out with rfl | ⟨l, m, rfl⟩
  · rfl
  · rw [List.concat_eq_append, pushT_snoc]
    split
    · rename_i h
      rw [dN_snoc, dN_snoc]; simp [dNd, h]
    · rw [dN_snoc]; simp [dNd]
/-! ## as the code goes -/
def foldG : Nat → List Ev → List Nd → List Nd × List Ev
  | 0, l, out => (out, l)
  | _ + 1, [], out => (out, [])
  | k + 1, e :: l, out =>
    if e.kind = 0 then foldG k l (pushT out e.text)
    else if e.kind = 3 then foldG k l (out ++ [⟨e.name, [], e.attrs, .nil⟩])
    else if e.kind = 1 then foldG k (foldG k l []).2 (out ++ [⟨e.name, [], e.attrs, .of (foldG k l []).1⟩])
    else (out, l)
theorem foldG_len : ∀ (k : Nat) (l : List Ev) (out : List Nd), (foldG k l out).2.length ≤ l.length
  | 0, l, out => Nat.le_refl _
  | k + 1, [], out => Nat.le_refl _
  | k + 1, e :: l, out => by
    have h1 := foldG_len k l
    simp only [foldG]
    split
    · have := h1 (pushT out e.text); simp; omega
    · split
      · have := h1 (out ++ [⟨e.name, [], e.attrs, .nil⟩]); simp; omega
      · split
        · have a1 := h1 []
          have a2 := foldG_len k (foldG k l []).2 (out ++ [⟨e.name, [], e.attrs, .of (foldG k l []).1⟩])
          simp only [List.length_cons]; omega
        · simp
theorem foldG_fuel : ∀ (k j : Nat) (l : List Ev) (out : List Nd), l.length ≤ k → l.length ≤ j → foldG k l out = foldG j l out
  | 0, j, l, out, h, _ => by
    obtain rfl : l = [] := List.eq_nil_of_length_eq_zero (by omega)
    cases j <;> rfl
  | k + 1, 0, l, out, _, h => by
    obtain rfl : l = [] := List.eq_nil_of_length_eq_zero (by omega)
    rfl
  | k + 1, j + 1, [], out, _, _ => rfl
  | k + 1, j + 1, e :: l, out, h1, h2 => by
    simp only [List.length_cons] at h1 h2
    have e1 := fun o => foldG_fuel k j l o (by omega) (by omega)
    have hl := foldG_len j l []
    have e2 := fun o => foldG_fuel k j (foldG j l []).2 o (by omega) (by omega)
    simp only [foldG, e1, e2]
/-- the nodes that events build, up to where they are closed, behind others; the rest -/
def foldF (l : List Ev) (out : List Nd) : List Nd × List Ev := foldG l.length l out
theorem foldF_len (l : List Ev) (out : List Nd) : (foldF l out).2.length ≤ l.length := foldG_len _ _ _
theorem foldF_nil (out : List Nd) : foldF [] out = (out, []) := rfl
theorem foldF_cons (e : Ev) (l : List Ev) (out : List Nd) : foldF (e :: l) out =
    if e.kind = 0 then foldF l (pushT out e.text)
    else if e.kind = 3 then foldF l (out ++ [⟨e.name, [], e.attrs, .nil⟩])
    else if e.kind = 1 then foldF (foldF l []).2 (out ++ [⟨e.name, [], e.attrs, .of (foldF l []).1⟩])
    else (out, l) := by
  have h := foldF_len l []
  unfold foldF at h ⊢
  simp only [List.length_cons, foldG]
  rw [foldG_fuel l.length (foldG l.length l []).2.length _ _ h (Nat.le_refl _)]
/-! ## as a stack goes -/
structure Fr where
  name : List UInt8
  attrs : List At
  out : List Nd
structure Mc where
  out : List Nd
  stk : List Fr
def mcStep (s : Mc) (e : Ev) : Mc :=
  if e.kind = 0 then { s with out := pushT s.out e.text }
  else if e.kind = 3 then { s with out := s.out ++ [⟨e.name, [], e.attrs, .nil⟩] }
  else if e.kind = 1 then ⟨[], ⟨e.name, e.attrs, s.out⟩ :: s.stk⟩
  else match s.stk with
    | f :: fs => ⟨f.out ++ [⟨f.name, [], f.attrs, .of s.out⟩], fs⟩
    | [] => s
def mcR (s : Mc) (l : List Ev) : Mc := l.foldl mcStep s
/-- how much higher -/
def hEv (e : Ev) : Int := if e.kind = 0 ∨ e.kind = 3 then 0 else if e.kind = 1 then 1 else -1
def hL (l : List Ev) : Int := (l.map hEv).sum
theorem hL_app (a b : List Ev) : hL (a ++ b) = hL a + hL b := by simp [hL]
def lowS (l : List Ev) : Prop := ∀ s, s <:+ l → hL s ≤ 0
theorem lowS.suf {l s : List Ev} (h : lowS l) (hs : s <:+ l) : lowS s := fun t ht => h t (ht.trans hs)
theorem fold_mc : ∀ (k : Nat) (l : List Ev), l.length ≤ k → lowS l → ∀ (out : List Nd) (stk : List Fr),
    (hL l = 0 ∧ (foldF l out).2 = [] ∧ mcR ⟨out, stk⟩ l = ⟨(foldF l out).1, stk⟩) ∨
    (hL l < 0 ∧ ∃ seg c, l = seg ++ c :: (foldF l out).2 ∧ c.kind ≠ 0 ∧ c.kind ≠ 3 ∧ c.kind ≠ 1 ∧ hL seg = 0 ∧ mcR ⟨out, stk⟩ seg = ⟨(foldF l out).1, stk⟩)
  | k, [], _, _, out, stk => .inl ⟨rfl, rfl, rfl⟩
  | 0, e :: l, h, _, _, _ => by simp at h
  | k + 1, e :: l, h, hlow, out, stk => by
    simp only [List.length_cons] at h
    have hsl : lowS l := hlow.suf (List.suffix_cons e l)
    have hl0 := hsl l (List.suffix_refl l)
    have hel := hlow (e :: l) (List.suffix_refl _)
    have hc : hL (e :: l) = hEv e + hL l := by simp [hL]
    rw [foldF_cons]
    by_cases h0 : e.kind = 0
    · have he : hEv e = 0 := by unfold hEv; rw [if_pos (.inl h0)]
      rw [if_pos h0]
      rcases fold_mc k l (by omega) hsl (pushT out e.text) stk with ⟨a, b, c⟩ | ⟨a, seg, c, b, c1, c2, c3, d, f⟩
      · refine .inl ⟨by omega, b, ?_⟩
        rw [← c]; simp only [mcR, List.foldl_cons, mcStep, if_pos h0]
      · refine .inr ⟨by omega, e :: seg, c, by rw [List.cons_append, ← b], c1, c2, c3, ?_, ?_⟩
        · have : hL (e :: seg) = hEv e + hL seg := by simp [hL]
          omega
        · rw [← f]; simp only [mcR, List.foldl_cons, mcStep, if_pos h0]
    · by_cases h3 : e.kind = 3
      · have he : hEv e = 0 := by unfold hEv; rw [if_pos (.inr h3)]
        rw [if_neg h0, if_pos h3]
        rcases fold_mc k l (by omega) hsl (out ++ [⟨e.name, [], e.attrs, .nil⟩]) stk with ⟨a, b, c⟩ | ⟨a, seg, c, b, c1, c2, c3, d, f⟩
        · refine .inl ⟨by omega, b, ?_⟩
          rw [← c]; simp only [mcR, List.foldl_cons, mcStep, if_neg h0, if_pos h3]
        · refine .inr ⟨by omega, e :: seg, c, by rw [List.cons_append, ← b], c1, c2, c3, ?_, ?_⟩
          · have : hL (e :: seg) = hEv e + hL seg := by simp [hL]
            omega
          · rw [← f]; simp only [mcR, List.foldl_cons, mcStep, if_neg h0, if_pos h3]
      · by_cases h1 : e.kind = 1
        · have he : hEv e = 1 := by unfold hEv; rw [if_neg (by omega), if_pos h1]
          rw [if_neg h0, if_neg h3, if_pos h1]
          rcases fold_mc k l (by omega) hsl [] (⟨e.name, e.attrs, out⟩ :: stk) with ⟨a, b, c⟩ | ⟨a, seg, c, b, c1, c2, c3, d, f⟩
          · omega
          · have hr : (foldF l []).2 <:+ l := ⟨seg ++ [c], by rw [List.append_assoc]; exact b.symm⟩
            have hrl := foldF_len l []
            have hcl : hL l = hL seg + (-1 + hL (foldF l []).2) := by
              have : hEv c = -1 := by unfold hEv; rw [if_neg (by omega), if_neg c3]
              conv => lhs; rw [b]
              rw [hL_app]; simp [hL, this]
            have hmc : ∀ rest, mcR ⟨out, stk⟩ (e :: (seg ++ c :: rest)) = mcR ⟨out ++ [⟨e.name, [], e.attrs, .of (foldF l []).1⟩], stk⟩ rest := by
              intro rest
              simp only [mcR] at f ⊢
              rw [List.foldl_cons, List.foldl_append, List.foldl_cons]
              have : mcStep ⟨out, stk⟩ e = ⟨[], ⟨e.name, e.attrs, out⟩ :: stk⟩ := by simp only [mcStep, if_neg h0, if_neg h3, if_pos h1]
              rw [this, f]
              simp only [mcStep, if_neg c1, if_neg c2, if_neg c3]
            have hlen : (foldF l []).2.length ≤ k := by omega
            rcases fold_mc k (foldF l []).2 hlen (hsl.suf hr) (out ++ [⟨e.name, [], e.attrs, .of (foldF l []).1⟩]) stk with ⟨a', b', c'⟩ | ⟨a', seg', cc, b', c1', c2', c3', d', f'⟩
            · refine .inl ⟨by omega, b', ?_⟩
              rw [← c', ← hmc]
              congr 1
              rw [← b]
            · refine .inr ⟨by omega, e :: (seg ++ c :: seg'), cc, ?_, c1', c2', c3', ?_, ?_⟩
              · conv => lhs; rw [b]
                conv => lhs; rw [b']
                simp
              · have e1 : hL (e :: (seg ++ c :: seg')) = hEv e + (hL seg + (hEv c + hL seg')) := by simp [hL]
                have : hEv c = -1 := by unfold hEv; rw [if_neg (by omega), if_neg c3]
                omega
              · rw [← f', ← hmc]
        · have he : hEv e = -1 := by unfold hEv; rw [if_neg (by omega), if_neg h1]
          rw [if_neg h0, if_neg h3, if_neg h1]
          exact .inr ⟨by omega, [], e, rfl, h0, h3, h1, rfl, rfl⟩
end Go.Proofs.YthgbpgjpnaanlaaDoor

/-
  Loops over functions, with memory in pieces.
-/
set_option linter.unusedSimpArgs false
set_option linter.unusedVariables false
set_option linter.unnecessarySimpa false
namespace Go.Sv
open Go Go.RowKit
def pLoop (l : Nat) (r : Loop) : Plot where
  foot := [l]
  ok w := LoopAt w l r
  view := (none, [])
  loc _ _ h hb := (hb l (by simp)).trans h
  lt _ h x hx := by rw [List.mem_singleton.1 hx]; exact h.lt
  sg _ _ := .inl rfl
def pDef (D : Nat) : Plot where
  foot := [D]
  ok w := NoDef w D
  view := (none, [])
  loc _ _ h hb := (hb D (by simp)).trans h
  lt _ h x hx := by rw [List.mem_singleton.1 hx]; exact h.lt
  sg _ _ := .inl rfl
section
variable {w0 w w' : World} {cs : List Plot} {l D i : Nat} {r r' : Loop}
theorem Sep.loop (h : Sep w0 w cs) (hf : Frm w w') (hL : LoopAt w' l r) (hN : NoDef w' D) (hl : w.heap.size ≤ l) (hD : w.heap.size ≤ D) (hne : l ≠ D) : Sep w0 w' (pLoop l r :: pDef D :: cs) := by
  refine h.seq (ds := [pLoop l r, pDef D]) ⟨hf, ?_, ?_, ?_⟩
  · intro c hc
    rcases List.mem_cons.1 hc with rfl | hc
    · exact hL
    · rw [List.mem_singleton.1 hc]; exact hN
  · intro c hc x hx
    rcases List.mem_cons.1 hc with rfl | hc
    · rw [List.mem_singleton.1 hx]; exact hl
    · rw [List.mem_singleton.1 hc] at hx; rw [List.mem_singleton.1 hx]; exact hD
  · rw [List.pairwise_cons]
    refine ⟨fun b hb x hx hx' => ?_, List.pairwise_singleton _ _⟩
    rw [List.mem_singleton.1 hb] at hx'
    rw [List.mem_singleton.1 hx] at hx'
    exact hne (List.mem_singleton.1 hx')
/-- a piece that is given away -/
theorem Sep.lose {c : Plot} (h : Sep w0 w (c :: cs)) (hl : Le c.foot w w') : Sep w0 w' cs := by
  have hp := h.apart
  rw [List.pairwise_cons] at hp
  exact h.tail.le hl (fun d hd x hx hm => hp.1 d hd x hm hx) (h.low _ List.mem_cons_self)
theorem Sep.undef (h : Sep w0 w (pDef D :: cs)) : Sep w0 (w.putObj D (.deferred none)) cs := h.lose (le_putObj w D _)
end
end Go.Sv

/-
  Package event: Close; slices.Backward.
-/
set_option linter.unusedSimpArgs false
set_option linter.unusedVariables false
set_option linter.unnecessarySimpa false
namespace Go.Proofs.YthgbpgjpnaanlaaDoor
open Go Go.Sv Go.RowKit

def closeE (n : List UInt8) : Ev := ⟨2, n, [], []⟩
/-- the events that close, in memory -/
def closeM (n : List UInt8) : EvM := ⟨closeE n, none, 0⟩
/-- what Open tells -/
def openS (k : Lk) : List (List UInt8) := if k.err = 0 then k.stack else []
theorem open_ok2 (ms : List EvM) (p : Option Addr) (c : Nat) (hn : ms.length ≤ 1048576) (hs : ∀ m ∈ ms, m.e.small) (w0 w : World) (cs : List Plot) (hS : Sep w0 w cs) (hA : Asc w) (hE : Evs w p ms) :
    CallsR Tryd.prog 16 #[.slice p ms.length c] w fun v w' => ∃ q cc, v = .tuple #[.slice q (openS (lkR (evs ms))).length cc, int (lkR (evs ms)).err] ∧ Frm w w' ∧ Sep w0 w' (pRow 1 q (openS (lkR (evs ms))).length cc (strs (openS (lkR (evs ms)))) :: cs) := by
  refine CallsR.mono (open_ok ms p c hn hs w hA hE) ?_
  rintro _ w1 ⟨hf, ⟨h2, rfl⟩ | ⟨h2, q, cc, rfl, hS2⟩⟩
  · rw [openS, if_neg h2]
    exact ⟨none, 0, rfl, hf, hS.push hf (Row.nil w1 1) (by simp [pRow, rb])⟩
  · rw [openS, if_pos h2, h2]
    exact ⟨q, cc, rfl, hf, hS.seq hS2⟩
end Go.Proofs.YthgbpgjpnaanlaaDoor

/-
  Structs of texts, numbers and bools compared.
-/
set_option linter.unusedSimpArgs false
set_option linter.unusedVariables false
set_option linter.unnecessarySimpa false
namespace Go.Sv
open Go Go.RowKit
def plainB (P : Program) : List Field → Nat → List TypeDesc → Bool
  | [], _, [] => true
  | f :: fs, k, d :: ds => (f.name != "_") && (f.offset == k) && (match P.underlying f.type, d with
    | some .string, .string => true
    | some .bool, .bool => true
    | some (.int a), .int b => kEq a b
    | _, _ => false) && plainB P fs (k + 1) ds
  | _, _, _ => false
/-- a struct whose fields are one cell each: texts, bools, numbers -/
class PlainS (P : Program) (t : TypeId) (ds : outParam (List TypeDesc)) : Prop where
  ok : ∃ fs, P.underlying t = some (.struct fs) ∧ plainB P fs.toList 0 ds = true ∧ P.stoodInHeld t = false ∧ P.eqGuardType P.depth t = false
/-- are two structs the same? -/
def eqL : List TypeDesc → List Value → List Value → Option Bool
  | [], [], [] => some true
  | .string :: ds, .string ⟨⟨a⟩⟩ :: xs, .string ⟨⟨b⟩⟩ :: ys => match eqL ds xs ys with | some r => some (decide (a = b) && r) | none => none
  | .bool :: ds, .bool a :: xs, .bool b :: ys => match eqL ds xs ys with | some r => some (decide (a = b) && r) | none => none
  | .int k :: ds, .int k1 a :: xs, .int k2 b :: ys => match kEq k k1, kEq k k2, eqL ds xs ys with | true, true, some r => some (decide (a = b) && r) | _, _, _ => none
  | _, _, _ => none
section
variable {P : Program} {w : World}
theorem run_part {t : TypeId} {d : TypeDesc} (hu : P.underlying t = some d) (hd : (match d with | .struct _ | .array _ _ => true | _ => false) = false) {cs : Array Value} {off : Nat} {v : Value} (hv : cs[off]? = some v) : (part t cs off).run P w = .ok v w := by
  have hi : (isAgg t).run P w = .ok false w := by
    simp only [isAgg, underlying, Sem.run_bind, run_program, Result.andThen_ok, hu, Sem.run_pure]
    rw [← hd]
    cases d <;> rfl
  simp [part, hi, hv]
theorem str_beq (a b : List UInt8) : ((ByteArray.mk ⟨a⟩).toList == (ByteArray.mk ⟨b⟩).toList) = decide (a = b) := by
  rw [ByteArray.toList_eq, ByteArray.toList_eq]
  exact lbeq a b
theorem eqFields_plain (d : Nat) (X Y : Array Value) : ∀ (fs : List Field) (k : Nat) (ds : List TypeDesc) (xs ys : List Value) (r : Bool), plainB P fs k ds = true → X.toList.drop k = xs → Y.toList.drop k = ys → eqL ds xs ys = some r →
    (Op.eqFields (d + 1) X Y fs).run P w = .ok r w := by
  intro fs
  induction fs with
  | nil =>
    intro k ds xs ys r hp hX hY he
    cases ds with
    | nil =>
      cases xs <;> cases ys <;> simp [eqL] at he
      subst he; rfl
    | cons d ds => simp [plainB] at hp
  | cons f fs ih =>
    intro k ds xs ys r hp hX hY he
    cases ds with
    | nil => simp [plainB] at hp
    | cons d0 ds =>
      simp only [plainB, Bool.and_eq_true] at hp
      obtain ⟨⟨⟨hn, ho⟩, ht⟩, hp⟩ := hp
      have hn' : f.name ≠ "_" := by simpa using hn
      have ho' : f.offset = k := by simpa using ho
      have tailX : ∀ v l, xs = v :: l → X[k]? = some v ∧ X.toList.drop (k + 1) = l := by
        intro v l h
        rw [h] at hX
        have h1 : X.toList[k]? = some v := by
          have := congrArg (·[0]?) hX
          simpa using this
        refine ⟨by simpa using h1, ?_⟩
        have := congrArg (List.drop 1) hX
        simpa [Nat.add_comm] using this
      have tailY : ∀ v l, ys = v :: l → Y[k]? = some v ∧ Y.toList.drop (k + 1) = l := by
        intro v l h
        rw [h] at hY
        have h1 : Y.toList[k]? = some v := by
          have := congrArg (·[0]?) hY
          simpa using this
        refine ⟨by simpa using h1, ?_⟩
        have := congrArg (List.drop 1) hY
        simpa [Nat.add_comm] using this
      simp only [Op.eqFields, if_pos hn', ho']
      unfold eqL at he
      split at he
      · contradiction
      · rename_i ds' a xs' b ys' hq
        injection hq with q1 q2
        subst q1 q2
        obtain ⟨x1, x2⟩ := tailX _ _ rfl
        obtain ⟨y1, y2⟩ := tailY _ _ rfl
        have hu : P.underlying f.type = some .string := by
          revert ht
          cases P.underlying f.type with
          | none => intro h; cases h
          | some u => cases u <;> intro h <;> first | rfl | cases h
        split at he
        · rename_i r' hr'
          obtain rfl := Option.some.inj he
          have := ih (k + 1) _ xs' ys' r' hp x2 y2 hr'
          simp only [Sem.run_bind, run_part hu rfl x1, run_part hu rfl y1, Result.andThen_ok, run_equalIn_string w d f.type _ _ hu, str_beq]
          cases decide (a = b) <;> simp [this]
        · cases he
      · rename_i ds' a xs' b ys' hq
        injection hq with q1 q2
        subst q1 q2
        obtain ⟨x1, x2⟩ := tailX _ _ rfl
        obtain ⟨y1, y2⟩ := tailY _ _ rfl
        have hu : P.underlying f.type = some .bool := by
          revert ht
          cases P.underlying f.type with
          | none => intro h; cases h
          | some u => cases u <;> intro h <;> first | rfl | cases h
        split at he
        · rename_i r' hr'
          obtain rfl := Option.some.inj he
          have := ih (k + 1) _ xs' ys' r' hp x2 y2 hr'
          have hbb : (a == b) = decide (a = b) := by cases a <;> cases b <;> rfl
          simp only [Sem.run_bind, run_part hu rfl x1, run_part hu rfl y1, Result.andThen_ok, run_equalIn_bool' w d f.type _ _ hu, hbb]
          cases decide (a = b) <;> simp [this]
        · cases he
      · rename_i kk ds' k1 a xs' k2 b ys' hq
        injection hq with q1 q2
        subst q1 q2
        obtain ⟨x1, x2⟩ := tailX _ _ rfl
        obtain ⟨y1, y2⟩ := tailY _ _ rfl
        split at he
        · rename_i r' e1 e2 hr'
          obtain rfl := Option.some.inj he
          obtain rfl := kEq_eq e1
          obtain rfl := kEq_eq e2
          have hu : P.underlying f.type = some (.int kk) := by
            revert ht
            cases P.underlying f.type with
            | none => intro h; cases h
            | some u => cases u <;> intro h <;> first | (rw [kEq_eq h]) | cases h
          have := ih (k + 1) _ xs' ys' r' hp x2 y2 hr'
          have hbb : (a == b) = decide (a = b) := by by_cases e : a = b <;> simp [e]
          simp only [Sem.run_bind, run_part hu rfl x1, run_part hu rfl y1, Result.andThen_ok, run_equalIn_int w d f.type _ _ _ _ hu, hbb]
          cases decide (a = b) <;> simp [this]
        · cases he
      · cases he
variable {σ : Env} {d : Option Tmp} {ty t t' : TypeId} {pos : String} {af : Array Edge} {g : Option (Nat × Bool)} {x y : Operand} {ds : List TypeDesc} {xs ys : List Value} {r : Bool}
theorem run_eqS [h : PlainS P t ds] (he : eqL ds xs ys = some r) (k : Nat) : (Op.equalIn (k + 2) t (.agg ⟨xs⟩) (.agg ⟨ys⟩)).run P w = .ok r w := by
  obtain ⟨fs, h1, h2, h3, _⟩ := h.ok
  have hf : P.fieldsOf t = fs := by simp [Program.fieldsOf, h1]
  rw [run_equalIn_struct w (k + 1) t _ _ (by rw [hf]; exact h1) h3, hf]
  exact eqFields_plain k ⟨xs⟩ ⟨ys⟩ fs.toList 0 ds xs ys r h2 rfl rfl he
theorem y_aneq [h : PlainS P t ds] (hx : evl σ x = .agg ⟨xs⟩) (hy : evl σ y = .agg ⟨ys⟩) (he : eqL ds xs ys = some r) : Y P σ ⟨d, .binOp .neq t x y t', ty, pos, af, g⟩ w (.bool (!r)) w := by
  obtain ⟨fs, h1, h2, h3, h4⟩ := h.ok
  refine Y.val ?_
  simp only [execOp, hx, hy, Sem.run_bind, run_eqGuard_agg w .neq t x y _ _ h4, Result.andThen_ok, run_neq_struct]
  rw [show (10000 : Nat) = 9998 + 2 from rfl, run_eqS he]
  rfl
end
end Go.Sv

/- This seat's plain structs as instances (made by a program of ours). -/
namespace Go.Proofs.YthgbpgjpnaanlaaDoor
open Go Go.Sv
instance : PlainS Tryd.prog 50 [.string, .string] := ⟨_, Tryd.underlying50, by kernel_rfl, by kernel_rfl, by kernel_rfl⟩
instance : PlainS Tryd.prog 51 [.string, .string] := ⟨_, Tryd.underlying51, by kernel_rfl, by kernel_rfl, by kernel_rfl⟩
instance : PlainS Tryd.prog 88 [.int .i64, .int .i64, .int .i64] := ⟨_, Tryd.underlying88, by kernel_rfl, by kernel_rfl, by kernel_rfl⟩
instance : PlainS Tryd.prog 89 [.int .i64, .int .i64, .int .i64] := ⟨_, Tryd.underlying89, by kernel_rfl, by kernel_rfl, by kernel_rfl⟩
instance : PlainS Tryd.prog 127 [.int .i32, .int .i64, .int .i64, .bool] := ⟨_, Tryd.underlying127, by kernel_rfl, by kernel_rfl, by kernel_rfl⟩
instance : PlainS Tryd.prog 128 [.int .i32, .int .i64, .int .i64, .bool] := ⟨_, Tryd.underlying128, by kernel_rfl, by kernel_rfl, by kernel_rfl⟩
instance : PlainS Tryd.prog 195 [.string] := ⟨_, Tryd.underlying195, by kernel_rfl, by kernel_rfl, by kernel_rfl⟩
instance : PlainS Tryd.prog 196 [.string] := ⟨_, Tryd.underlying196, by kernel_rfl, by kernel_rfl, by kernel_rfl⟩
end Go.Proofs.YthgbpgjpnaanlaaDoor

/-
  sieveref18: Same, Equal, Ends; sievelaw18: own, same.
-/
set_option linter.unusedSimpArgs false
set_option linter.unusedVariables false
set_option linter.unnecessarySimpa false
namespace Go.Proofs.YthgbpgjpnaanlaaDoor
open Go Go.Sv Go.RowKit

theorem att_at {es : List At} {i : Nat} {x : At} (h : es[i]? = some x) : ((es.flatMap At.cells).drop (i * 2)).take 2 = x.cells := fm_seg At.len es h
end Go.Proofs.YthgbpgjpnaanlaaDoor

/-
  sievelaw18: own; event: copied.
-/
set_option linter.unusedSimpArgs false
set_option linter.unusedVariables false
set_option linter.unnecessarySimpa false
namespace Go.Proofs.YthgbpgjpnaanlaaDoor
open Go Go.Sv Go.RowKit

theorem att_one (es : List At) : ∀ u ∈ es.flatMap At.cells, u.oneCell' = true := by
  intro u hu
  obtain ⟨x, _, hx⟩ := List.mem_flatMap.1 hu
  simp only [At.cells, List.mem_cons, List.not_mem_nil, or_false] at hx
  rcases hx with rfl | rfl <;> rfl
theorem evs_flat (ns : List EvM) (m : EvM) : ns.flatMap EvM.cells ++ m.cells = (ns ++ [m]).flatMap EvM.cells := by simp
theorem evs_snoc (ns : List EvM) (m : EvM) : evs (ns ++ [m]) = evs ns ++ [m.e] := by simp [evs]
end Go.Proofs.YthgbpgjpnaanlaaDoor

/-
  sievelaw18: awake, EventNames.
-/
set_option linter.unusedSimpArgs false
set_option linter.unusedVariables false
set_option linter.unnecessarySimpa false
namespace Go.Proofs.YthgbpgjpnaanlaaDoor
open Go Go.Sv Go.RowKit

theorem num18_ok (k : Int) (w : World) : PureC Tryd.prog 12 #[int k] w (int k) := by
  refine enter (l := [int k]) Tryd.func12 rfl Tryd.ntmps12 (by kernel_rfl) rfl ?_
  refine sgo ?_
  (first | refine fp1 (.inl rfl) rfl rfl ?_ | refine fp2 (.inl rfl) rfl rfl rfl ?_ | refine fp3 (.inl rfl) rfl rfl rfl rfl ?_ | refine fp0 (.inr rfl) rfl ?_ | refine fp0 (.inl rfl) rfl ?_ | refine fp1 (.inr rfl) rfl rfl ?_); refine ⟨?_, by (first | exact Frm.refl _ | assumption | exact Go.Sv.Sep.frm (by assumption) | (refine Frm.trans ?_ (by assumption); first | exact Frm.refl _ | assumption))⟩; (try simp only [realB, rv_true, Nat.reduceBEq, cond_true, cond_false, entG, real_lif, updGL])
def ex1 : List EvM := [⟨⟨1, [98], [], []⟩, none, 0⟩, ⟨⟨2, [105], [], []⟩, none, 0⟩]
def ex2 : List EvM := [⟨⟨3, [98, 114], [], []⟩, none, 0⟩]
theorem ex1_lk : (lkR (evs ex1)).at_ = 1 ∧ (lkR (evs ex1)).err = 181 := by decide +kernel
theorem ex2_lk : (lkR (evs ex2)).most = 1 ∧ (lkR (evs ex2)).err = 0 := by decide +kernel
theorem exs_small : (∀ m ∈ ex1, m.e.small) ∧ ∀ m ∈ ex2, m.e.small := by
  constructor
  · intro m hm
    simp only [ex1, List.mem_cons, List.not_mem_nil, or_false] at hm
    rcases hm with rfl | rfl <;> exact ⟨by decide, by decide, by decide, by simp⟩
  · intro m hm
    simp only [ex2, List.mem_cons, List.not_mem_nil, or_false] at hm
    subst hm
    exact ⟨by decide, by decide, by decide, by simp⟩
set_option maxHeartbeats 1000000 in
theorem awake18_ok (w : World) (hA : Asc w) : PureC Tryd.prog 13 #[] w (.bool true) := by
  refine enter (l := []) Tryd.func13 rfl Tryd.ntmps13 (by kernel_rfl) rfl ?_
  have hS := Sep.start w
  refine sgo ?_
  refine wlbuild ?_
  refine wlbuild ?_
  refine wlbsr (vs := ex1.map EvM.cells) 2 (fun b w1 hb ho hf => ?_) (h1 := fun v hv => by obtain ⟨m, _, rfl⟩ := List.mem_map.1 hv; rfl)
  replace hS : Sep w w1 [pOwn b (ex1.flatMap EvM.cells)] := hS.push hf ho (by simpa [pOwn] using hb)
  refine wlpure (nested_ok ex1 (pb b) 2 (by decide) exs_small.1 w1 (hA.frm hS.frm) ⟨(hS.own 0 rfl).im (by simp), ?_⟩) fun w2 hf2 => ?_
  · intro m hm
    simp only [ex1, List.mem_cons, List.not_mem_nil, or_false] at hm
    rcases hm with rfl | rfl <;> exact Im.nil _ _ _
  replace hS := (hS.grow hf2).empty
  rw [ex1_lk.1, ex1_lk.2]
  refine sgo ?_
  refine wlbuild ?_
  refine sb1a (vs := ex2.flatMap EvM.cells) hS fun b3 w3 hS => ?_
  refine wlpure (depth_ok ex2 (pb b3) 1 (by decide) exs_small.2 w3 (hA.frm hS.frm) ⟨(hS.own 0 rfl).im (by simp), ?_⟩) fun w4 hf4 => ?_
  · intro m hm
    simp only [ex2, List.mem_cons, List.not_mem_nil, or_false] at hm
    subst hm; exact Im.nil _ _ _
  replace hS := hS.grow hf4
  rw [if_pos ex2_lk.2, ex2_lk.1]
  refine sgo ?_
  refine wlcallgp (vals := [int 181]) (fun _ => num18_ok 181 _) fun w5 hf5 => ?_
  replace hS := hS.grow hf5
  refine sgo ?_
  refine wlcallgp (vals := [int 0]) (fun _ => num18_ok 0 _) fun w6 hf6 => ?_
  replace hS := hS.grow hf6
  refine sgo ?_
  (first | refine fp1 (.inl rfl) rfl rfl ?_ | refine fp2 (.inl rfl) rfl rfl rfl ?_ | refine fp3 (.inl rfl) rfl rfl rfl rfl ?_ | refine fp0 (.inr rfl) rfl ?_ | refine fp0 (.inl rfl) rfl ?_ | refine fp1 (.inr rfl) rfl rfl ?_); refine ⟨?_, by (first | exact Frm.refl _ | assumption | exact Go.Sv.Sep.frm (by assumption) | (refine Frm.trans ?_ (by assumption); first | exact Frm.refl _ | assumption))⟩; (try simp only [realB, rv_true, Nat.reduceBEq, cond_true, cond_false, entG, real_lif, updGL])
  simp [pkb]
end Go.Proofs.YthgbpgjpnaanlaaDoor

/-
  Regions that draw their order, whatever they make: by a plan that says of each operation what it yields, makes and takes.
-/
set_option linter.unusedSimpArgs false
set_option linter.unusedVariables false
set_option linter.unnecessarySimpa false
namespace Go.Sv
open Go Go.RowKit

theorem Sep.perm {w0 w : World} {cs ds : List Plot} (h : Sep w0 w cs) (hp : cs.Perm ds) : Sep w0 w ds :=
  ⟨h.frm, fun c hc => h.ok c (hp.mem_iff.2 hc), fun c hc => h.low c (hp.mem_iff.2 hc), hp.pairwise h.apart fun h x hx hx' => h x hx' hx⟩
theorem filter_insert {α : Type} [DecidableEq α] {k : α} {q : α → Bool} (hq : q k = false) : ∀ {l : List α}, l.Nodup → k ∈ l → (l.filter fun j => decide (j = k) || q j).Perm (k :: l.filter q)
  | [], _, h => by cases h
  | x :: l, hn, hm => by
    rw [List.nodup_cons] at hn
    by_cases e : x = k
    · subst e
      have hrest : l.filter (fun j => decide (j = x) || q j) = l.filter q := by
        refine List.filter_congr fun j hj => ?_
        have : j ≠ x := fun h => hn.1 (h ▸ hj)
        simp [this]
      simp only [List.filter_cons, decide_true, Bool.true_or, if_true, hq, Bool.false_eq_true, if_false, hrest]
      exact List.Perm.refl _
    · have hm' : k ∈ l := by
        rcases List.mem_cons.1 hm with h | h
        · exact absurd h.symm e
        · exact h
      have ih := filter_insert hq hn.2 hm'
      simp only [List.filter_cons, decide_eq_false e, Bool.false_or]
      cases q x with
      | false => simpa using ih
      | true => simpa using (ih.cons x).trans (List.Perm.swap k x _)

structure Plan (D : Type) where
  val : Nat → D → Value
  pl : Nat → D → List Plot
  con : Nat → Option Nat
  fact : Nat → (Nat → D) → Prop
section
variable {D : Type}
def setD (a : Nat → D) (k : Nat) (d : D) : Nat → D := fun j => if j = k then d else a j
theorem setD_same (a : Nat → D) (k : Nat) (d : D) : setD a k d k = d := if_pos rfl
theorem setD_ne (a : Nat → D) {k j : Nat} (d : D) (h : j ≠ k) : setD a k d j = a j := if_neg h
def Plan.live (p : Plan D) (L : Nat → Bool) (j : Nat) : Bool := L j && (match p.con j with | some c => !L c | none => true)
def Plan.mem (p : Plan D) (n : Nat) (L : Nat → Bool) (a : Nat → D) : List Plot := ((List.range n).filter (p.live L)).flatMap fun j => p.pl j (a j)
/-- what operation k takes -/
def Plan.takes (p : Plan D) (n k : Nat) (a : Nat → D) : List Plot := ((List.range n).filter fun j => decide (p.con j = some k)).flatMap fun j => p.pl j (a j)
def Plan.S (p : Plan D) (w0 : World) (cs : List Plot) (σ0 : Env) (ops : List Oper) (L : Nat → Bool) (σ : Env) (w : World) : Prop :=
  (∀ s, (∀ (k : Nat) (o : Oper), ops[k]? = some o → o.dst ≠ some s) → σ s = σ0 s) ∧
  ∃ a : Nat → D, (∀ (k : Nat) (o : Oper), ops[k]? = some o → L k = true → (∀ d, o.dst = some d → σ d = p.val k (a k)) ∧ p.fact k a) ∧ Sep w0 w (p.mem ops.length L a ++ cs)
/-- how operation k goes, by the plan -/
def Plan.Rule (p : Plan D) (P : Program) (w0 : World) (cs : List Plot) (σ0 : Env) (ops : List Oper) (k : Nat) (o : Oper) : Prop :=
  ∀ (a : Nat → D) (σ : Env) (w : World) (rest : List Plot), (∀ s, (∀ (k : Nat) (o : Oper), ops[k]? = some o → o.dst ≠ some s) → σ s = σ0 s) →
    (∀ (j : Nat) (oj : Oper), bindsOn o j = true → ops[j]? = some oj → (∀ d, oj.dst = some d → σ d = p.val j (a j)) ∧ p.fact j a) → Sep w0 w (p.takes ops.length k a ++ (cs ++ rest)) →
    (Region.wanted o (yl ops.toArray σ) = true ∧ comes P (fun v w' => ∃ d, v = p.val k d ∧ p.fact k (setD a k d) ∧ Sep w0 w' (p.pl k d ++ (cs ++ rest))) ((execOp (evl σ) o).run P w)) ∨
    (Region.wanted o (yl ops.toArray σ) = false ∧ ∃ d, undef = p.val k d ∧ p.fact k (setD a k d) ∧ Sep w0 w (p.pl k d ++ (cs ++ rest)))
def Plan.Rules (p : Plan D) (P : Program) (w0 : World) (cs : List Plot) (σ0 : Env) (ops : List Oper) : Nat → List Oper → Prop
  | _, [] => True
  | k, o :: l => p.Rule P w0 cs σ0 ops k o ∧ p.Rules P w0 cs σ0 ops (k + 1) l
/-- the plan's book-keeping: whoever takes waits; targets differ -/
def planB (con : Nat → Option Nat) (ops : List Oper) : Bool :=
  (List.range ops.length).all fun j => (match con j with
    | some c => decide (c < ops.length) && (match ops[c]? with | some oc => bindsOn oc j | none => false)
    | none => true) && (List.range ops.length).all fun i => decide (i = j) || (match ops[i]?, ops[j]? with
      | some oi, some oj => (match oi.dst with | some d => decide (oj.dst ≠ some d) | none => true)
      | _, _ => true)
theorem comes_mono {P : Program} {T T' : Value → World → Prop} (h : ∀ v w, T v w → T' v w) : ∀ {r : Result Next}, comes P T r → comes P T' r := by
  intro r hr
  unfold comes at *
  split at hr
  · exact h _ _ hr
  · exact h _ _ hr
  · exact Calls.mono hr fun e w ⟨v, he, hv⟩ => ⟨v, he, h _ _ hv⟩
  · exact hr.elim
end
end Go.Sv
namespace Go.Sv
open Go Go.RowKit
theorem frameOf {σ : Env} (sl : List (Nat × Value)) (h : Has σ sl) : σ = real (updGL (lif σ) sl) := by rw [← real_updL, updL_has h]
theorem notDst {ops : List Oper} {s : Nat} (h : (ops.all fun o => decide (o.dst ≠ some s)) = true) : ∀ (k : Nat) (o : Oper), ops[k]? = some o → o.dst ≠ some s := fun k o hk =>
  of_decide_eq_true (List.all_eq_true.1 h o (List.mem_of_getElem? hk))
section
variable {D : Type} {P : Program} {w0 w w' : World} {cs rest : List Plot} {σ : Env} {d : Option Tmp} {op : Op} {ty : TypeId} {pos : String} {af : Array Edge} {v : Value} {k : Nat} {ops : Array Oper} {T : Value → World → Prop}
/-- an operation of a plan, that has no guard -/
theorem rule_y {B : Prop} {o : Oper} (hy : Y P σ o w v w') (hT : T v w') (hg : o.guard = none := by rfl) :
    (Region.wanted o (yl ops σ) = true ∧ comes P T ((execOp (evl σ) o).run P w)) ∨ B := .inl ⟨by simp [Region.wanted, hg], comes_of_Y hy hT⟩
theorem rule_call {B : Prop} {f : FuncId} [hf : Fnc P f] {args : List Operand} {ats : Array TypeId} {vals : List Value} {R : Value → World → Prop} (hc : CallsR P f vals.toArray w R) (hT : ∀ v w', R v w' → T v w') (ha : args.map (evl σ) = vals) :
    (Region.wanted (⟨d, .call ⟨.value (.func f), args.toArray, ats⟩, ty, pos, af, none⟩ : Oper) (yl ops σ) = true ∧ comes P T ((execOp (evl σ) ⟨d, .call ⟨.value (.func f), args.toArray, ats⟩, ty, pos, af, none⟩).run P w)) ∨ B := by
  refine .inl ⟨by simp [Region.wanted], ?_⟩
  rw [run_call_func]
  have : (args.toArray.map (evl σ)) = vals.toArray := by rw [← ha]; simp
  rw [this]
  exact Calls.mono hc fun e w'' ⟨v, he, hv⟩ => ⟨v, he, hT v w'' hv⟩
variable {t t' e e' : TypeId} {x y : Operand} {zv u : Value} {size bytes i m n c c' : Nat} {p q : Option Addr} {xs news vs : List Value}
/-- a slice written out, of one struct: its piece -/
theorem y_bs1 [hu : Und P t (.slice e)] [hi : Inf P e zv size bytes] (hS : Sep w0 w cs) (hx : evl σ x = .agg ⟨vs⟩) (hv : vs.length = size) (hz : zv.cells.size = size) (hsz : 0 < size) (hm : size ≤ 16777216) :
    ∃ b w', Y P σ ⟨d, .buildSlice t 1 #[(0, x)], ty, pos, af, none⟩ w (.slice (pb b) 1 1) w' ∧ Sep w0 w' (pOwn b vs :: cs) := by
  refine ⟨w.heap.size, w.alloc (.cells ⟨vs⟩ e), Y.val ?_, hS.push (frm_alloc _ _) (own_alloc _ _ _) (by simp [pOwn])⟩
  simp only [execOp, List.map_toArray, List.map_cons, List.map_nil, hx, Sem.run_bind]
  rw [run_buildSlice1 (P := P) (t := t) (e := e) hz (by simpa [Value.cells] using hv) hsz hm]
  rfl
/-- append to the i-th piece -/
theorem y_app [hu : Und P t (.slice e)] [hu' : Und P t' (.slice e')] [hi : Inf P e zv size bytes] (hS : Sep w0 w cs) (i : Nat) (hs : Sg w q news) (hc : cs[i]? = some (pRow size p m c xs)) (hx : evl σ x = .slice p m c) (hy : evl σ y = .slice q n c') (hl : news.length = n * size)
    (h1 : ∀ u ∈ news, u.oneCell' = true) (hz : zv.cells.size = size) (hsz : 0 < size) (hb : (m + n) * bytes ≤ 140737488355328 ∧ m + n ≤ 9223372036854775807) :
    ∃ p' c2 w', Y P σ ⟨d, .call ⟨.builtin .append, #[x, y], #[t, t']⟩, ty, pos, af, none⟩ w (.slice p' (m + n) c2) w' ∧ Sep w0 w' (cs.set i (pRow size p' (m + n) c2 (xs ++ news))) := by
  obtain ⟨p', c2, w', h2, h3, h4⟩ := run_append_row (P := P) (t := t) (tx := t') (ty := ty) (e := e) hz hsz (hS.row i hc) (src_of_sg (tx := t') (c := c') hs hl h1) hb.2 hb.1
  exact ⟨p', c2, w', run_append_op hx hy h2, hS.upd i hc h4 h3⟩
end
end Go.Sv

/-
  Package event: Equal, Count, Text.
-/
set_option linter.unusedSimpArgs false
set_option linter.unusedVariables false
set_option linter.unnecessarySimpa false
namespace Go.Sv
open Go Go.RowKit
section
variable {P : Program} {w : World}
variable {σ : Env} {d : Option Tmp} {ty t t' el : TypeId} {pos : String} {af : Array Edge} {g : Option (Nat × Bool)} {x y : Operand} {zv : Value} {bytes : Nat}
end
end Go.Sv
namespace Go.Proofs.YthgbpgjpnaanlaaDoor
open Go Go.Sv Go.RowKit

set_option maxHeartbeats 1000000 in
/-- two lists of attributes -/
theorem atEqual_ok (es fs : List At) (p q : Option Addr) (c cc : Nat) (h1 : es.length ≤ 1048577) (h2 : fs.length ≤ 1048577) (w : World) (hi : Im [] w p (es.flatMap At.cells)) (hj : Im [] w q (fs.flatMap At.cells)) :
    PureC Tryd.prog 63 #[.slice p es.length c, .slice q fs.length cc] w (.bool (decide (es = fs))) := by
  have hl1 := fm_len At.len es
  have hl2 := fm_len At.len fs
  refine enter (l := [.slice p es.length c, .slice q fs.length cc]) Tryd.func63 rfl Tryd.ntmps63 (by kernel_rfl) rfl ?_
  have hS := Sep.start w
  refine sgo ?_
  (show WC _ _ _ _ _ _ _; first | refine WC_dec rfl (fun hc => ?_) (fun hc => ?_) | refine WC_cond rfl (fun hc => ?_) (fun hc => ?_))
  · have hne : es ≠ fs := by
      intro h
      subst h
      simp at hc
    refine sgo ?_
    (first | refine fp1 (.inl rfl) rfl rfl ?_ | refine fp2 (.inl rfl) rfl rfl rfl ?_ | refine fp3 (.inl rfl) rfl rfl rfl rfl ?_ | refine fp0 (.inr rfl) rfl ?_ | refine fp0 (.inl rfl) rfl ?_ | refine fp1 (.inr rfl) rfl rfl ?_); refine ⟨?_, by (first | exact Frm.refl _ | assumption | exact Go.Sv.Sep.frm (by assumption) | (refine Frm.trans ?_ (by assumption); first | exact Frm.refl _ | assumption))⟩; (try simp only [realB, rv_true, Nat.reduceBEq, cond_true, cond_false, entG, real_lif, updGL])
    rw [decide_eq_false hne]
  · have hle : es.length = fs.length := by
      have : ¬ ((es.length : Int) ≠ fs.length) := hc
      omega
    clear hc
    refine sgo ?_
    refine wcloop (X := Nat) (fun i => [(0, .slice p es.length c), (1, .slice q fs.length cc), (12, int es.length), (13, int i)])
      (fun i wr => i ≤ es.length ∧ es.take i = fs.take i ∧ Frm w wr) (fun i => es.length - i) 0 ⟨rfl, rfl, rfl, rfl, trivial⟩ ⟨Nat.zero_le _, rfl, Frm.refl _⟩ ?_
    rintro i wr ρ ⟨hil, hpre, hfr⟩
    refine sgo ?_
    (show WC _ _ _ _ _ _ _; first | refine WC_dec rfl (fun hc => ?_) (fun hc => ?_) | refine WC_cond rfl (fun hc => ?_) (fun hc => ?_))
    · have hlt : i < es.length := by omega
      have hx : es[i]? = some es[i] := List.getElem?_eq_getElem hlt
      have hy : fs[i]? = some fs[i] := List.getElem?_eq_getElem (by omega)
      have hsx := att_at hx
      have hsy := att_at hy
      have hir := hi.frm hfr
      have hjr := hj.frm hfr
      have hpa : ∃ a, p = some a := hi.some (by omega)
      have hpb : ∃ a, q = some a := hj.some (by omega)
      have htx : es.take (i + 1) = es.take i ++ [es[i]] := by rw [List.take_add_one, hx]; rfl
      have hty : fs.take (i + 1) = fs.take i ++ [fs[i]] := by rw [List.take_add_one, hy]; rfl
      generalize es[i] = x at *
      generalize fs[i] = y at *
      clear hc
      refine sgo ?_
      refine wcdraw ?_
      refine qgo ?_
      rw [hsx, hsy]
      refine ql (v := .bool (!(decide (x.n = y.n) && (decide (x.v = y.v) && true)))) ?_ (YQ.ofY fun w _ => y_aneq rfl rfl rfl)
      refine QL_nil ?_
      intro w3 hf3
      have hfr3 := hfr.trans hf3
      obtain ⟨xn, xv⟩ := x
      obtain ⟨yn, yv⟩ := y
      refine sgo ?_
      (show WC _ _ _ _ _ _ _; first | refine WC_dec rfl (fun hc => ?_) (fun hc => ?_) | refine WC_cond rfl (fun hc => ?_) (fun hc => ?_))
      · have hne : es ≠ fs := by
          intro h
          subst h
          rw [hx] at hy
          injection hy with hy
          injection hy with e1 e2
          subst e1 e2
          simp at hc
        refine sgo ?_
        (first | refine fp1 (.inl rfl) rfl rfl ?_ | refine fp2 (.inl rfl) rfl rfl rfl ?_ | refine fp3 (.inl rfl) rfl rfl rfl rfl ?_ | refine fp0 (.inr rfl) rfl ?_ | refine fp0 (.inl rfl) rfl ?_ | refine fp1 (.inr rfl) rfl rfl ?_); refine ⟨?_, by (first | exact Frm.refl _ | assumption | exact Go.Sv.Sep.frm (by assumption) | (refine Frm.trans ?_ (by assumption); first | exact Frm.refl _ | assumption))⟩; (try simp only [realB, rv_true, Nat.reduceBEq, cond_true, cond_false, entG, real_lif, updGL])
        rw [decide_eq_false hne]
      · refine sgo ?_
        refine ⟨i + 1, ⟨rfl, rfl, rfl, rfl, trivial⟩, ⟨hlt, ?_, hfr3⟩, (by (try dsimp only); omega)⟩
        rw [htx, hty, hpre]
        simp at hc
        rw [hc.1, hc.2]
    · obtain rfl : i = es.length := by omega
      rw [List.take_length, hle, List.take_length] at hpre
      refine sgo ?_
      (first | refine fp1 (.inl rfl) rfl rfl ?_ | refine fp2 (.inl rfl) rfl rfl rfl ?_ | refine fp3 (.inl rfl) rfl rfl rfl rfl ?_ | refine fp0 (.inr rfl) rfl ?_ | refine fp0 (.inl rfl) rfl ?_ | refine fp1 (.inr rfl) rfl rfl ?_); refine ⟨?_, by (first | exact Frm.refl _ | assumption | exact Go.Sv.Sep.frm (by assumption) | (refine Frm.trans ?_ (by assumption); first | exact Frm.refl _ | assumption))⟩; (try simp only [realB, rv_true, Nat.reduceBEq, cond_true, cond_false, entG, real_lif, updGL])
      rw [hpre, decide_eq_true rfl]
set_option maxHeartbeats 1000000 in
theorem evEqual1_ok (a b : EvM) (ha : a.e.small) (hb : b.e.small) (w : World) (hi : Im [] w a.p (a.e.attrs.flatMap At.cells)) (hj : Im [] w b.p (b.e.attrs.flatMap At.cells)) :
    PureC Tryd.prog 62 #[.agg ⟨a.cells⟩, .agg ⟨b.cells⟩] w (.bool (decide (a.e = b.e))) := by
  obtain ⟨⟨ka, na, ta, es⟩, pa, ca⟩ := a
  obtain ⟨⟨kb, nb, tb, fs⟩, pb', cb⟩ := b
  have h1 := ha.attrs
  have h2 := hb.attrs
  dsimp only at hi hj h1 h2
  refine enter (l := [.agg ⟨EvM.cells ⟨⟨ka, na, ta, es⟩, pa, ca⟩⟩, .agg ⟨EvM.cells ⟨⟨kb, nb, tb, fs⟩, pb', cb⟩⟩]) Tryd.func62 rfl Tryd.ntmps62 (by kernel_rfl) rfl ?_
  have hS := Sep.start w
  refine WC_seq ?_
  refine WC_region ?_
  refine sbox (v := .agg ⟨EvM.cells ⟨⟨ka, na, ta, es⟩, pa, ca⟩⟩) hS fun b2 w1 hS => ?_
  replace hS : Sep w w1 [pOwn b2 [int ka, str na, str ta, .slice pa es.length ca]] := hS
  refine sbox (v := .agg ⟨EvM.cells ⟨⟨kb, nb, tb, fs⟩, pb', cb⟩⟩) hS fun b3 w2 hS => ?_
  replace hS : Sep w w2 [pOwn b3 [int kb, str nb, str tb, .slice pb' fs.length cb], pOwn b2 [int ka, str na, str ta, .slice pa es.length ca]] := hS
  refine sgo ?_
  refine wlcallgp (vals := [.slice pa es.length ca, .slice pb' fs.length cb]) (fun _ => atEqual_ok es fs pa pb' ca cb (by omega) (by omega) _ (hi.sep hS) (hj.sep hS)) fun w3 hf3 => ?_
  replace hS := hS.grow hf3
  refine sgo ?_
  (first | refine fp1 (.inl rfl) rfl rfl ?_ | refine fp2 (.inl rfl) rfl rfl rfl ?_ | refine fp3 (.inl rfl) rfl rfl rfl rfl ?_ | refine fp0 (.inr rfl) rfl ?_ | refine fp0 (.inl rfl) rfl ?_ | refine fp1 (.inr rfl) rfl rfl ?_); refine ⟨?_, by (first | exact Frm.refl _ | assumption | exact Go.Sv.Sep.frm (by assumption) | (refine Frm.trans ?_ (by assumption); first | exact Frm.refl _ | assumption))⟩; (try simp only [realB, rv_true, Nat.reduceBEq, cond_true, cond_false, entG, real_lif, updGL])
  have e : (⟨ka, na, ta, es⟩ : Ev) = ⟨kb, nb, tb, fs⟩ ↔ ((ka = kb ∧ na = nb) ∧ ta = tb) ∧ es = fs := by
    constructor
    · intro h; injection h with e1 e2 e3 e4; exact ⟨⟨⟨e1, e2⟩, e3⟩, e4⟩
    · rintro ⟨⟨⟨rfl, rfl⟩, rfl⟩, rfl⟩; rfl
  simp only [pkb_and, decide_eq_decide.2 e, Bool.decide_and]
set_option maxHeartbeats 1000000 in
theorem evEqualF_ok (ms ns : List EvM) (p q : Option Addr) (c cc : Nat) (h1 : ms.length ≤ 1048577) (h2 : ns.length ≤ 1048577) (hs : ∀ m ∈ ms, m.e.small) (hs2 : ∀ m ∈ ns, m.e.small) (w : World) (hE : Evs w p ms) (hF : Evs w q ns) :
    PureC Tryd.prog 61 #[.slice p ms.length c, .slice q ns.length cc, .func (.func 62) #[] #[]] w (.bool (decide (evs ms = evs ns))) := by
  refine enter (l := [.slice p ms.length c, .slice q ns.length cc, .func (.func 62) #[] #[]]) Tryd.func61 rfl Tryd.ntmps61 (by kernel_rfl) rfl ?_
  have hS := Sep.start w
  refine sgo ?_
  (show WC _ _ _ _ _ _ _; first | refine WC_dec rfl (fun hc => ?_) (fun hc => ?_) | refine WC_cond rfl (fun hc => ?_) (fun hc => ?_))
  · have hne : evs ms ≠ evs ns := by
      intro h
      have := congrArg List.length h
      rw [evs_len, evs_len] at this
      have hc' : ¬ ((ms.length : Int) = ns.length) := hc
      omega
    refine sgo ?_
    (first | refine fp1 (.inl rfl) rfl rfl ?_ | refine fp2 (.inl rfl) rfl rfl rfl ?_ | refine fp3 (.inl rfl) rfl rfl rfl rfl ?_ | refine fp0 (.inr rfl) rfl ?_ | refine fp0 (.inl rfl) rfl ?_ | refine fp1 (.inr rfl) rfl rfl ?_); refine ⟨?_, by (first | exact Frm.refl _ | assumption | exact Go.Sv.Sep.frm (by assumption) | (refine Frm.trans ?_ (by assumption); first | exact Frm.refl _ | assumption))⟩; (try simp only [realB, rv_true, Nat.reduceBEq, cond_true, cond_false, entG, real_lif, updGL])
    rw [decide_eq_false hne]
  have hle : ms.length = ns.length := by
    have : ¬ ((ms.length : Int) ≠ ns.length) := hc
    omega
  clear hc
  refine sgo ?_
  refine wcloop (X := Nat) (fun i => [(1, .slice q ns.length cc), (2, .func (.func 62) #[] #[]), (15, .slice p ms.length c), (16, int ms.length), (17, int i)])
    (fun i wr => i ≤ ms.length ∧ (evs ms).take i = (evs ns).take i ∧ Sep w wr []) (fun i => ms.length - i) 0 ⟨rfl, rfl, rfl, rfl, rfl, trivial⟩ ⟨Nat.zero_le _, rfl, hS⟩ ?_
  clear hS
  rintro i wr ρ ⟨hil, hpre, hS⟩
  have hEr := hE.frm hS.frm
  have hFr := hF.frm hS.frm
  refine sgo ?_
  (show WC _ _ _ _ _ _ _; first | refine WC_dec rfl (fun hc => ?_) (fun hc => ?_) | refine WC_cond rfl (fun hc => ?_) (fun hc => ?_))
  · have hlt : i < ms.length := by omega
    have hSg := hE.im.sg
    have hSh := hF.im.sg
    have hIm := hE.im
    have hIn := hF.im
    have hx : ms[i]? = some ms[i] := List.getElem?_eq_getElem hlt
    have hy : ns[i]? = some ns[i] := List.getElem?_eq_getElem (by omega)
    have hseg := fm_seg EvM.len ms hx
    have hseh := fm_seg EvM.len ns hy
    have hat := hE.each _ (List.getElem_mem hlt)
    have hau := hF.each _ (List.getElem_mem (show i < ns.length by omega))
    have hsm := hs _ (List.getElem_mem hlt)
    have hsn := hs2 _ (List.getElem_mem (show i < ns.length by omega))
    have hps : ∃ q, p = some q := hSg.some (by have := fm_len EvM.len ms; omega)
    have hqs : ∃ a, q = some a := hSh.some (by have := fm_len EvM.len ns; omega)
    have hfl := fm_len EvM.len ms
    have hfl2 := fm_len EvM.len ns
    have htx : (evs ms).take (i + 1) = (evs ms).take i ++ [ms[i].e] := by rw [List.take_add_one, evs_at hx]; rfl
    have hty : (evs ns).take (i + 1) = (evs ns).take i ++ [ns[i].e] := by rw [List.take_add_one, evs_at hy]; rfl
    generalize ms[i] = m at *
    generalize ns[i] = n at *
    clear hc
    obtain ⟨⟨ka, na, ta, es⟩, ap, ac⟩ := m
    obtain ⟨⟨kb, nb, tb, fs⟩, bp, bc⟩ := n
    refine sgo ?_
    rw [hseg]
    refine salloc hS fun b8 w1 hS => ?_
    refine sgo ?_
    refine ssta (vs := [int ka, str na, str ta, .slice ap es.length ac]) hS 0 fun w2 hS => ?_
    replace hS : Sep w w2 [pOwn b8 [int ka, str na, str ta, .slice ap es.length ac]] := hS
    refine sgo ?_
    rw [hseh]
    refine salloc hS fun b9 w3 hS => ?_
    refine sgo ?_
    refine ssta (vs := [int kb, str nb, str tb, .slice bp fs.length bc]) hS 0 fun w4 hS => ?_
    replace hS : Sep w w4 [pOwn b9 [int kb, str nb, str tb, .slice bp fs.length bc], pOwn b8 [int ka, str na, str ta, .slice ap es.length ac]] := hS
    refine sgo ?_
    refine wlcallv (f := 62) (first := []) (args := [.agg ⟨EvM.cells ⟨⟨ka, na, ta, es⟩, ap, ac⟩⟩, .agg ⟨EvM.cells ⟨⟨kb, nb, tb, fs⟩, bp, bc⟩⟩]) (cap := []) (evEqual1_ok ⟨⟨ka, na, ta, es⟩, ap, ac⟩ ⟨⟨kb, nb, tb, fs⟩, bp, bc⟩ hsm hsn w4 (hat.sep hS) (hau.sep hS)) ?_
    rintro _ w5 ⟨rfl, hf5⟩
    replace hS := hS.grow hf5
    refine sgo ?_
    (show WC _ _ _ _ _ _ _; first | refine WC_dec rfl (fun hc => ?_) (fun hc => ?_) | refine WC_cond rfl (fun hc => ?_) (fun hc => ?_))
    · have hne : evs ms ≠ evs ns := by
        intro h
        rw [h] at htx
        rw [htx] at hty
        have := List.append_cancel_left hty
        simp at this
        simp [this] at hc
      refine sgo ?_
      (first | refine fp1 (.inl rfl) rfl rfl ?_ | refine fp2 (.inl rfl) rfl rfl rfl ?_ | refine fp3 (.inl rfl) rfl rfl rfl rfl ?_ | refine fp0 (.inr rfl) rfl ?_ | refine fp0 (.inl rfl) rfl ?_ | refine fp1 (.inr rfl) rfl rfl ?_); refine ⟨?_, by (first | exact Frm.refl _ | assumption | exact Go.Sv.Sep.frm (by assumption) | (refine Frm.trans ?_ (by assumption); first | exact Frm.refl _ | assumption))⟩; (try simp only [realB, rv_true, Nat.reduceBEq, cond_true, cond_false, entG, real_lif, updGL])
      rw [decide_eq_false hne]
    · refine sgo ?_
      refine ⟨i + 1, ⟨rfl, rfl, rfl, rfl, rfl, trivial⟩, ⟨hlt, ?_, hS.tail.tail⟩, (by (try dsimp only); omega)⟩
      rw [htx, hty, hpre]
      simp at hc
      rw [hc.1, hc.2.1, hc.2.2.1, hc.2.2.2]
  · obtain rfl : i = ms.length := by omega
    refine sgo ?_
    (first | refine fp1 (.inl rfl) rfl rfl ?_ | refine fp2 (.inl rfl) rfl rfl rfl ?_ | refine fp3 (.inl rfl) rfl rfl rfl rfl ?_ | refine fp0 (.inr rfl) rfl ?_ | refine fp0 (.inl rfl) rfl ?_ | refine fp1 (.inr rfl) rfl rfl ?_); refine ⟨?_, by (first | exact Frm.refl _ | assumption | exact Go.Sv.Sep.frm (by assumption) | (refine Frm.trans ?_ (by assumption); first | exact Frm.refl _ | assumption))⟩; (try simp only [realB, rv_true, Nat.reduceBEq, cond_true, cond_false, entG, real_lif, updGL])
    rw [← evs_len ms, List.take_length, evs_len, hle, ← evs_len ns, List.take_length] at hpre
    rw [hpre, decide_eq_true rfl]
theorem eqEv_ok (ms ns : List EvM) (p q : Option Addr) (c cc : Nat) (h1 : ms.length ≤ 1048577) (h2 : ns.length ≤ 1048577) (hs : ∀ m ∈ ms, m.e.small) (hs2 : ∀ m ∈ ns, m.e.small) (w : World) (hE : Evs w p ms) (hF : Evs w q ns) :
    PureC Tryd.prog 35 #[.slice p ms.length c, .slice q ns.length cc] w (.bool (decide (evs ms = evs ns))) := by
  refine enter (l := [.slice p ms.length c, .slice q ns.length cc]) Tryd.func35 rfl Tryd.ntmps35 (by kernel_rfl) rfl ?_
  refine sgo ?_
  refine wlpure (evEqualF_ok ms ns p q c cc h1 h2 hs hs2 w hE hF) fun w1 hf1 => ?_
  refine sgo ?_
  (first | refine fp1 (.inl rfl) rfl rfl ?_ | refine fp2 (.inl rfl) rfl rfl rfl ?_ | refine fp3 (.inl rfl) rfl rfl rfl rfl ?_ | refine fp0 (.inr rfl) rfl ?_ | refine fp0 (.inl rfl) rfl ?_ | refine fp1 (.inr rfl) rfl rfl ?_); refine ⟨?_, by (first | exact Frm.refl _ | assumption | exact Go.Sv.Sep.frm (by assumption) | (refine Frm.trans ?_ (by assumption); first | exact Frm.refl _ | assumption))⟩; (try simp only [realB, rv_true, Nat.reduceBEq, cond_true, cond_false, entG, real_lif, updGL])
end Go.Proofs.YthgbpgjpnaanlaaDoor

/-
  Package event: Count, Text.
-/
set_option linter.unusedSimpArgs false
set_option linter.unusedVariables false
set_option linter.unnecessarySimpa false
namespace Go.Proofs.YthgbpgjpnaanlaaDoor
open Go Go.Sv Go.RowKit

def cntR (l : List Ev) (k : Int) : Nat := l.countP fun e => decide (e.kind = k)
/-- how many of each kind -/
def cnts (l : List Ev) : List Value := [int (cntR l 0), int (cntR l 1), int (cntR l 2), int (cntR l 3)]
/-- all text in one -/
def etxt (e : Ev) : List UInt8 := if e.kind = 0 then mendR e.text else []
def textR (l : List Ev) : List UInt8 := l.flatMap etxt
end Go.Proofs.YthgbpgjpnaanlaaDoor

/-
  Texts cut and joined: what is valid stays so.
-/
set_option linter.unusedSimpArgs false
set_option linter.unusedVariables false
set_option linter.unnecessarySimpa false
namespace Go.Proofs.YthgbpgjpnaanlaaDoor
open Go Go.Sv Go.RowKit
end Go.Proofs.YthgbpgjpnaanlaaDoor

/-
  Events folded into trees: what holds of events that nest; events merged.
-/
set_option linter.unusedSimpArgs false
set_option linter.unusedVariables false
set_option linter.unnecessarySimpa false
namespace Go.Proofs.YthgbpgjpnaanlaaDoor
open Go Go.Sv Go.RowKit

theorem evR_kind {e : Ev} (h : evR e = true) : e.kind = 0 ∨ e.kind = 1 ∨ e.kind = 2 ∨ e.kind = 3 := by
  unfold evR at h
  split at h
  · exact .inl ‹_›
  · split at h
    · exact .inr (.inl ‹_›)
    · split at h
      · exact .inr (.inr (.inr ‹_›))
      · split at h
        · exact .inr (.inr (.inl ‹_›))
        · cases h
theorem nameR_ne {l : List UInt8} (h : nameR false l = true) : l ≠ [] := by
  rintro rfl
  simp [nameR] at h
theorem evR_name {e : Ev} (h : evR e = true) (hk : e.kind = 1 ∨ e.kind = 3) : e.name ≠ [] := by
  have hm : mayR e.start = true := by
    unfold evR at h
    rcases hk with hk | hk
    · rw [if_neg (by omega), if_pos hk] at h; simp at h; exact h.1.2
    · rw [if_neg (by omega), if_neg (by omega), if_pos hk] at h; simp at h; exact h.1.2
  unfold mayR Ev.start at hm
  simp at hm
  exact nameR_ne hm.1
/-- how deep it all is, frames closed -/
def up : List Fr → Nat → Nat
  | [], d => d
  | f :: fs, d => up fs (max (dN f.out) (1 + d))
theorem up_max : ∀ (s : List Fr) (a b : Nat), up s (max a b) = max (up s a) (s.length + b)  ∨ up s (max a b) = up s a := by
  intro s
  induction s with
  | nil => intro a b; left; simp [up]
  | cons f fs ih =>
    intro a b
    simp only [up, List.length_cons]
    have e : max (dN f.out) (1 + max a b) = max (max (dN f.out) (1 + a)) (1 + b) := by omega
    rw [e]
    rcases ih (max (dN f.out) (1 + a)) (1 + b) with h | h
    · left; rw [h]; omega
    · right; exact h
theorem up_mono : ∀ (s : List Fr) {a b : Nat}, a ≤ b → up s a ≤ up s b := by
  intro s
  induction s with
  | nil => intro a b h; exact h
  | cons f fs ih => intro a b h; exact ih (by omega)
theorem up_ge : ∀ (s : List Fr) (b : Nat), s.length + b ≤ up s b := by
  intro s
  induction s with
  | nil => intro b; simp [up]
  | cons f fs ih => intro b; simp only [up, List.length_cons]; have := ih (max (dN f.out) (1 + b)); omega
theorem up_both (s : List Fr) (a b : Nat) : up s (max a b) = max (up s a) (s.length + b) := by
  rcases up_max s a b with h | h
  · exact h
  · have h1 := up_mono s (show b ≤ max a b by omega)
    have h2 := up_ge s b
    omega
/-- what holds of events that nest -/
structure Nst (l : List Ev) : Prop where
  h : hL l = (lkR l).stack.length
  stk : (mcR ⟨[], []⟩ l).stk.length = (lkR l).stack.length
  most : up (mcR ⟨[], []⟩ l).stk (dN (mcR ⟨[], []⟩ l).out) = (lkR l).most
  names : ∀ f ∈ (mcR ⟨[], []⟩ l).stk, f.name ≠ []
  cnt : cntR l 1 = cntR l 2 + (lkR l).stack.length
  all : cntR l 0 + cntR l 1 + cntR l 2 + cntR l 3 = l.length
theorem cntR_snoc (l : List Ev) (e : Ev) (k : Int) : cntR (l ++ [e]) k = cntR l k + if e.kind = k then 1 else 0 := by
  unfold cntR
  rw [List.countP_append]
  by_cases hk : e.kind = k <;> simp [hk]
theorem lk_snoc (l : List Ev) (e : Ev) : lkR (l ++ [e]) = lkStep (lkR l) e := by unfold lkR; rw [List.foldl_append]; rfl
theorem mc_snoc (s : Mc) (l : List Ev) (e : Ev) : mcR s (l ++ [e]) = mcStep (mcR s l) e := by unfold mcR; rw [List.foldl_append]; rfl
theorem lk_snoc_ok {l : List Ev} {e : Ev} (h : (lkR (l ++ [e])).err = 0) : (lkR l).err = 0 ∧ evR e = true := by
  rw [lk_snoc] at h
  by_cases h0 : (lkR l).err = 0
  · exact ⟨h0, (lk_right h0 h).1⟩
  · rw [lkStep, if_neg h0] at h; exact absurd h h0
theorem nst_snoc {l : List Ev} {e : Ev} (hN : Nst l) (h : (lkR (l ++ [e])).err = 0) : Nst (l ++ [e]) := by
  obtain ⟨h0, he⟩ := lk_snoc_ok h
  have h2 := h
  rw [lk_snoc] at h2
  obtain ⟨-, hst⟩ := lk_right h0 h2
  obtain ⟨n1, n2, n3, n6, n4, n5⟩ := hN
  have hh : hL (l ++ [e]) = hL l + hEv e := by simp [hL]
  generalize hk : lkR l = k at *
  generalize hs : mcR ⟨[], []⟩ l = s at *
  obtain ⟨out, stk⟩ := s
  dsimp only at n2 n3 n6
  have hne : e.kind = 2 → k.stack ≠ [] := by
    intro e2 h3
    revert h2
    simp only [lkStep, h0, if_true, he, e2, h3]
    simp
  rcases evR_kind he with hkd | hkd | hkd | hkd
  · have e1 : lkR (l ++ [e]) = ⟨k.stack, k.most, 0, 0, k.good + 1⟩ := by rw [lk_snoc, hk, hst]; simp [hkd]
    have e2 : mcR ⟨[], []⟩ (l ++ [e]) = ⟨pushT out e.text, stk⟩ := by rw [mc_snoc, hs]; simp [mcStep, hkd]
    have e3 : hEv e = 0 := by simp [hEv, hkd]
    refine ⟨by rw [hh, e1, n1, e3]; simp, by rw [e1, e2]; exact n2, by rw [e1, e2]; dsimp only; rw [dN_pushT]; exact n3, by rw [e2]; exact n6, ?_, ?_⟩
    · rw [cntR_snoc, cntR_snoc, e1, if_neg (by omega), if_neg (by omega)]; exact n4
    · rw [cntR_snoc, cntR_snoc, cntR_snoc, cntR_snoc, if_pos hkd, if_neg (by omega), if_neg (by omega), if_neg (by omega), List.length_append, List.length_singleton]; omega
  · have e1 : lkR (l ++ [e]) = ⟨k.stack ++ [e.name], max k.most (k.stack.length + 1), 0, 0, k.good + 1⟩ := by rw [lk_snoc, hk, hst]; simp [hkd]
    have e2 : mcR ⟨[], []⟩ (l ++ [e]) = ⟨[], ⟨e.name, e.attrs, out⟩ :: stk⟩ := by rw [mc_snoc, hs]; simp [mcStep, hkd]
    have e3 : hEv e = 1 := by simp [hEv, hkd]
    refine ⟨by rw [hh, e1, n1, e3]; simp, by rw [e1, e2]; simp [n2], ?_, ?_, ?_, ?_⟩
    · rw [e1, e2]
      simp only [up, dN]
      rw [up_both, n3, n2]
    · rw [e2]
      intro f hf
      rcases List.mem_cons.1 hf with rfl | hf
      · exact evR_name he (.inl hkd)
      · exact n6 f hf
    · rw [cntR_snoc, cntR_snoc, e1, if_pos hkd, if_neg (by omega)]; simp; omega
    · rw [cntR_snoc, cntR_snoc, cntR_snoc, cntR_snoc, if_neg (by omega), if_pos hkd, if_neg (by omega), if_neg (by omega), List.length_append, List.length_singleton]; omega
  · have e1 : lkR (l ++ [e]) = ⟨k.stack.dropLast, k.most, 0, 0, k.good + 1⟩ := by rw [lk_snoc, hk, hst]; simp [hkd]
    have e3 : hEv e = -1 := by simp [hEv, hkd]
    have hpos : 0 < k.stack.length := List.length_pos_iff.2 (hne hkd)
    cases stk with
    | nil => simp at n2; omega
    | cons f fs =>
      have e2 : mcR ⟨[], []⟩ (l ++ [e]) = ⟨f.out ++ [⟨f.name, [], f.attrs, .of out⟩], fs⟩ := by rw [mc_snoc, hs]; simp [mcStep, hkd]
      refine ⟨by rw [hh, e1, n1, e3]; simp; omega, by rw [e1, e2]; simp at n2 ⊢; omega, ?_, ?_, ?_, ?_⟩
      · rw [e1, e2]
        dsimp only
        rw [dN_snoc, ← n3]
        simp only [up, dNd, n6 f List.mem_cons_self, if_false, dN_of]
      · rw [e2]
        exact fun g hg => n6 g (List.mem_cons_of_mem _ hg)
      · rw [cntR_snoc, cntR_snoc, e1, if_neg (by omega), if_pos hkd]; simp; omega
      · rw [cntR_snoc, cntR_snoc, cntR_snoc, cntR_snoc, if_neg (by omega), if_neg (by omega), if_pos hkd, if_neg (by omega), List.length_append, List.length_singleton]; omega
  · have e1 : lkR (l ++ [e]) = ⟨k.stack, max k.most (k.stack.length + 1), 0, 0, k.good + 1⟩ := by rw [lk_snoc, hk, hst]; simp [hkd]
    have e2 : mcR ⟨[], []⟩ (l ++ [e]) = ⟨out ++ [⟨e.name, [], e.attrs, .nil⟩], stk⟩ := by rw [mc_snoc, hs]; simp [mcStep, hkd]
    have e3 : hEv e = 0 := by simp [hEv, hkd]
    refine ⟨by rw [hh, e1, n1, e3]; simp, by rw [e1, e2]; exact n2, ?_, by rw [e2]; exact n6, ?_, ?_⟩
    · rw [e1, e2]
      dsimp only
      rw [dN_snoc, up_both, n3]
      simp only [dNd, evR_name he (.inr hkd), if_false, Fo.depth]
      rw [n2]
    · rw [cntR_snoc, cntR_snoc, e1, if_neg (by omega), if_neg (by omega)]; exact n4
    · rw [cntR_snoc, cntR_snoc, cntR_snoc, cntR_snoc, if_neg (by omega), if_neg (by omega), if_neg (by omega), if_pos hkd, List.length_append, List.length_singleton]; omega
theorem snoc_ind {α : Type} {p : List α → Prop} (h0 : p []) (hs : ∀ l a, p l → p (l ++ [a])) : ∀ l, p l := by
  intro l
  have : ∀ n (l : List α), l.length = n → p l := by
    intro n
    induction n with
    | zero => intro l h; rw [List.eq_nil_of_length_eq_zero h]; exact h0
    | succ n ih =>
      intro l h
      rcases List.eq_nil_or_concat l with rfl | ⟨a, b, rfl⟩
      · simp at h
      · rw [List.concat_eq_append] at h ⊢
        exact hs a b (ih a (by simpa using h))
  exact this _ l rfl
theorem nst_of (l : List Ev) : (lkR l).err = 0 → Nst l := by
  refine snoc_ind (p := fun l => (lkR l).err = 0 → Nst l) ?_ ?_ l
  · intro _
    exact ⟨rfl, rfl, rfl, (fun f hf => by cases hf), rfl, rfl⟩
  · intro l e ih h
    exact nst_snoc (ih (lk_snoc_ok h).1) h
theorem lk_pre {a b : List Ev} (h : (lkR (a ++ b)).err = 0) : (lkR a).err = 0 := by
  by_cases h0 : (lkR a).err = 0
  · exact h0
  · have : lkR (a ++ b) = lkR a := by unfold lkR at h0 ⊢; rw [List.foldl_append, lk_bad h0]
    rw [this] at h; exact absurd h h0
/-- complete events: the trees -/
theorem fold_all {l : List Ev} (h : (lkR l).err = 0) (hs : (lkR l).stack = []) : (foldF l []).2 = [] ∧ mcR ⟨[], []⟩ l = ⟨(foldF l []).1, []⟩ := by
  have hN := nst_of l h
  have h0 : hL l = 0 := by rw [hN.h, hs]; rfl
  have hlow : lowS l := by
    rintro s ⟨a, rfl⟩
    have h1 := (nst_of a (lk_pre h)).h
    rw [hL_app] at h0
    omega
  rcases fold_mc l.length l (Nat.le_refl _) hlow [] [] with ⟨_, h1, h2⟩ | ⟨h1, _⟩
  · exact ⟨h1, h2⟩
  · omega
/-! ## merged -/
def mgStep (acc : List Ev) (e : Ev) : List Ev :=
  if e.kind ≠ 0 then acc ++ [e]
  else if e.text = [] then acc
  else match acc.getLast? with
    | some m => if m.kind = 0 then acc.dropLast ++ [{ m with text := m.text ++ e.text }] else acc ++ [e]
    | none => [e]
def mgR (l : List Ev) : List Ev := l.foldl mgStep []
theorem lk_text {k : Lk} {e : Ev} (h0 : k.err = 0) (he : evR e = true) (hk : e.kind = 0) : lkStep k e = ⟨k.stack, k.most, 0, 0, k.good + 1⟩ := by
  rw [lkStep, if_pos h0, if_pos he, if_neg (by omega), if_neg (by omega), if_neg (by omega)]
end Go.Proofs.YthgbpgjpnaanlaaDoor

/-
  sieveref18: At.
-/
set_option linter.unusedSimpArgs false
set_option linter.unusedVariables false
set_option linter.unnecessarySimpa false
namespace Go.Proofs.YthgbpgjpnaanlaaDoor
open Go Go.Sv Go.RowKit

def Lk.cells (k : Lk) (q : Option Addr) (c : Nat) : List Value := [.slice q k.stack.length c, int k.most, int k.at_, int k.err, int k.good]

end Go.Proofs.YthgbpgjpnaanlaaDoor

/-
  sievelaw18: EventNests.
-/
set_option linter.unusedSimpArgs false
set_option linter.unusedVariables false
set_option linter.unnecessarySimpa false
namespace Go.Sv
open Go Go.RowKit
end Go.Sv
namespace Go.Proofs.YthgbpgjpnaanlaaDoor
open Go Go.Sv Go.RowKit

def depthS (k : Lk) : Nat := if k.err = 0 then k.most else 0
theorem depth_ok2 (ms : List EvM) (p : Option Addr) (c : Nat) (hn : ms.length ≤ 1048576) (hs : ∀ m ∈ ms, m.e.small) (w : World) (hA : Asc w) (hE : Evs w p ms) :
    PureC Tryd.prog 17 #[.slice p ms.length c] w (.tuple #[int (depthS (lkR (evs ms))), int (lkR (evs ms)).err]) := by
  have h := depth_ok ms p c hn hs w hA hE
  unfold depthS
  by_cases he : (lkR (evs ms)).err = 0
  · rw [if_pos he] at h ⊢
    rw [he]; exact h
  · rw [if_neg he] at h ⊢
    exact h
end Go.Proofs.YthgbpgjpnaanlaaDoor

/-
  Package event: copied, Wrap; sievelaw18: spoil.
-/
set_option linter.unusedSimpArgs false
set_option linter.unusedVariables false
set_option linter.unnecessarySimpa false
namespace Go.Sv
open Go Go.RowKit
theorem y_slnil {P : Program} {σ : Env} {w : World} {d : Option Tmp} {ty t t' e : TypeId} {pos : String} {af : Array Edge} {g : Option (Nat × Bool)} {x y : Operand} {p : Option Addr} {n c : Nat} [hu : Und P t (.slice e)] (hx : evl σ x = .slice p n c) (hy : evl σ y = .slice none 0 0) : Y P σ ⟨d, .binOp .eql t x y t', ty, pos, af, g⟩ w (.bool p.isNone) w := by
  refine Y.val ?_
  have h : ∀ k : Nat, (Op.equalIn (k + 1) t (.slice p n c) (.slice none 0 0)).run P w = .ok p.isNone w := fun k => by
    cases p <;> simp [Op.equalIn, run_underlying hu.ok]
  simp only [execOp, hx, hy]
  simp [eqGuard, binOp, Op.equal, Op.maxDepth, h 9999]
end Go.Sv
namespace Go.Proofs.YthgbpgjpnaanlaaDoor
open Go Go.Sv Go.RowKit

set_option maxHeartbeats 1000000 in
theorem cloneAt_ok (es : List At) (p : Option Addr) (c : Nat) (hn : es.length ≤ 1048576) (w0 w : World) (cs : List Plot) (hS : Sep w0 w cs) (hi : Im [] w p (es.flatMap At.cells)) :
    CallsR Tryd.prog 55 #[.slice p es.length c] w fun v w' => ∃ q cc, v = .slice q es.length cc ∧ Frm w w' ∧ Sep w0 w' (pRow 2 q es.length cc (es.flatMap At.cells) :: cs) := by
  have hS0 := hS
  replace hS := Sep.start w
  have hl1 := fm_len At.len es
  refine enter (l := [.slice p es.length c]) Tryd.func55 rfl Tryd.ntmps55 (by kernel_rfl) rfl ?_
  refine sgo ?_
  refine wl ?_ (y_slnil rfl rfl)
  cases p with
  | none =>
    have he : es = [] := by
      rcases hi with h | ⟨a, h, _⟩
      · exact List.length_eq_zero_iff.1 (by rw [h] at hl1; simp at hl1; omega)
      · cases h
    subst he
    refine sgo ?_
    (first | refine fp1 (.inl rfl) rfl rfl ?_ | refine fp2 (.inl rfl) rfl rfl rfl ?_ | refine fp3 (.inl rfl) rfl rfl rfl rfl ?_ | refine fp0 (.inr rfl) rfl ?_ | refine fp0 (.inl rfl) rfl ?_ | refine fp1 (.inr rfl) rfl rfl ?_)
    exact ⟨none, 0, rfl, Frm.refl w, hS0.push (Frm.refl w) (Row.nil w 2) (by simp [pRow, rb])⟩
  | some a =>
    rw [show (some a).isNone = false from rfl]
    refine sgo ?_
    refine sb0 hS fun b5 w5 hS => ?_
    refine sgo ?_
    refine sapp hS 0 (hi.sep hS).sg (fun q2 c2 w6 hS => ?_) (hl := by omega) (h1 := att_one es)
    rw [List.nil_append, show 0 + es.length = es.length from Nat.zero_add _] at hS
    rw [show 0 + es.length = es.length from Nat.zero_add _]
    refine sgo ?_
    (first | refine fp1 (.inl rfl) rfl rfl ?_ | refine fp2 (.inl rfl) rfl rfl rfl ?_ | refine fp3 (.inl rfl) rfl rfl rfl rfl ?_ | refine fp0 (.inr rfl) rfl ?_ | refine fp0 (.inl rfl) rfl ?_ | refine fp1 (.inr rfl) rfl rfl ?_)
    exact ⟨q2, c2, rfl, hS.frm, hS0.seq hS⟩
set_option maxHeartbeats 1000000 in
theorem evCopied_ok (e : Ev) (p : Option Addr) (c : Nat) (hs : e.small) (w0 w : World) (cs : List Plot) (hS : Sep w0 w cs) (hi : Im [] w p (e.attrs.flatMap At.cells)) :
    CallsR Tryd.prog 48 #[.agg ⟨e.cells p c⟩] w fun v w' => ∃ q cc, v = .agg ⟨e.cells q cc⟩ ∧ Frm w w' ∧ Sep w0 w' (pRow 2 q e.attrs.length cc (e.attrs.flatMap At.cells) :: cs) := by
  have hS0 := hS
  replace hS := Sep.start w
  obtain ⟨k, nm, tx, es⟩ := e
  have hes := hs.attrs
  dsimp only at hi hes
  refine enter (l := [.agg ⟨Ev.cells ⟨k, nm, tx, es⟩ p c⟩]) Tryd.func48 rfl Tryd.ntmps48 (by kernel_rfl) rfl ?_
  refine WC_seq ?_
  refine WC_region ?_
  refine sbox (v := .agg ⟨Ev.cells ⟨k, nm, tx, es⟩ p c⟩) hS fun b1 w1 hS => ?_
  replace hS : Sep w w1 [pOwn b1 [int k, str nm, str tx, .slice p es.length c]] := hS
  refine sgo ?_
  refine salloc hS fun b2 w2 hS => ?_
  refine sgo ?_
  refine wlcall (cloneAt_ok es p c hes w w2 _ hS (hi.sep hS)) ?_
  rintro _ w3 ⟨q, cc, rfl, -, hS⟩
  refine sgo ?_
  refine sst_slice hS 2 fun w4 hS => ?_
  refine sgo ?_
  refine ssta (vs := Ev.cells ⟨k, nm, tx, es⟩ q cc) hS 1 fun w5 hS => ?_
  refine sgo ?_
  refine fpc (.inl rfl) rfl rfl rfl (hS.own 1 rfl) ⟨q, cc, rfl, hS.frm, hS0.seq (ds := [_]) (hS.sub (List.Sublist.cons_cons _ (List.nil_sublist _)))⟩

def spM : EvM := ⟨⟨9, [115, 112, 111, 105, 108, 116], [], []⟩, none, 0⟩
end Go.Proofs.YthgbpgjpnaanlaaDoor

/-
  Package event: Wrap.
-/
set_option linter.unusedSimpArgs false
set_option linter.unusedVariables false
set_option linter.unnecessarySimpa false
namespace Go.Proofs.YthgbpgjpnaanlaaDoor
open Go Go.Sv Go.RowKit

def firstE (n : List UInt8) (es : List At) : Ev := ⟨1, n, [], es⟩
def wrapC (f : Ev) (k : Lk) : Int := if evR f = false then 180 else if k.err ≠ 0 then k.err else if k.stack = [] then 0 else 181
def wrapE (n : List UInt8) (es : List At) (l : List Ev) : List Ev := if wrapC (firstE n es) (lkR l) = 0 then firstE n es :: l ++ [closeE n] else []
set_option maxHeartbeats 4000000 in
theorem wrap_ok (n : List UInt8) (es : List At) (ms : List EvM) (pa p : Option Addr) (ca c : Nat) (hf : (firstE n es).small) (hn : ms.length ≤ 1048576) (hs : ∀ m ∈ ms, m.e.small) (w0 w : World) (cs : List Plot) (hS0 : Sep w0 w cs) (hA : Asc w) (hi : Im [] w pa (es.flatMap At.cells)) (hE : Evs w p ms) :
    CallsR Tryd.prog 26 #[str n, .slice pa es.length ca, .slice p ms.length c] w fun v w' => ∃ q cc ns, v = .tuple #[.slice q ns.length cc, int (wrapC (firstE n es) (lkR (evs ms)))] ∧ evs ns = wrapE n es (evs ms) ∧ Frm w w' ∧ Sep w0 w' (pRow 4 q ns.length cc (ns.flatMap EvM.cells) :: pMany (ns.map EvM.row) :: cs) := by
  have hS := Sep.start w
  have hes := hf.attrs
  dsimp only [firstE] at hes
  have hnil : ∀ (k : Int), k ≠ 0 → wrapC (firstE n es) (lkR (evs ms)) = k → ∀ w1, Frm w w1 → ∃ q cc ns, (Value.tuple #[.slice none 0 0, int k]) = .tuple #[.slice q (List.length ns) cc, int (wrapC (firstE n es) (lkR (evs ms)))] ∧ evs ns = wrapE n es (evs ms) ∧ Frm w w1 ∧ Sep w0 w1 (pRow 4 q ns.length cc (ns.flatMap EvM.cells) :: pMany (ns.map EvM.row) :: cs) := by
    intro k h0 h1 w1 hf1
    refine ⟨none, 0, [], by rw [h1]; rfl, by rw [wrapE, h1, if_neg h0]; rfl, hf1, ?_⟩
    exact ((hS0.grow hf1).zero).push (Frm.refl w1) (Row.nil w1 4) (by simp [pRow, rb])
  refine enter (l := [str n, .slice pa es.length ca, .slice p ms.length c]) Tryd.func26 rfl Tryd.ntmps26 (by kernel_rfl) rfl ?_
  refine sgo ?_
  refine wlbuild ?_
  refine wlcall (evCopied_ok (firstE n es) pa ca hf w w [] hS hi) ?_
  rintro _ w1 ⟨q1, c1, rfl, -, hS⟩
  refine sgo ?_
  refine salloc hS fun b8 w2 hS => ?_
  refine sgo ?_
  refine ssta (vs := [int 1, str n, str [], .slice q1 es.length c1]) hS 0 fun w3 hS => ?_
  replace hS : Sep w w3 [pOwn b8 [int 1, str n, str [], .slice q1 es.length c1], pRow 2 q1 es.length c1 (es.flatMap At.cells)] := hS
  refine sgo ?_
  refine wlpure (evCheck_ok (firstE n es) q1 c1 hf w3 (hA.frm hS.frm) (hS.im 1 rfl)) fun w4 hf4 => ?_
  replace hS := hS.grow hf4
  cases he : evR (firstE n es) with
  | false =>
    have hC : wrapC (firstE n es) (lkR (evs ms)) = 180 := by rw [wrapC, if_pos he]
    refine sgo ?_
    (first | refine fp1 (.inl rfl) rfl rfl ?_ | refine fp2 (.inl rfl) rfl rfl rfl ?_ | refine fp3 (.inl rfl) rfl rfl rfl rfl ?_ | refine fp0 (.inr rfl) rfl ?_ | refine fp0 (.inl rfl) rfl ?_ | refine fp1 (.inr rfl) rfl rfl ?_)
    exact hnil 180 (by decide) hC _ hS.frm
  | true =>
    refine sgo ?_
    refine wlcall (open_ok2 ms p c hn hs w w4 _ hS (hA.frm hS.frm) (hE.frm hS.frm)) ?_
    rintro _ w5 ⟨q5, c5, rfl, -, hS⟩
    refine sgo ?_
    by_cases hr : (lkR (evs ms)).err = 0
    · have ho : openS (lkR (evs ms)) = (lkR (evs ms)).stack := if_pos hr
      rw [ho] at hS ⊢
      refine wcno ?_ (ht := by simpa using hr)
      by_cases hst : (lkR (evs ms)).stack = []
      · have hC : wrapC (firstE n es) (lkR (evs ms)) = 0 := by rw [wrapC, if_neg (by simp [he]), if_neg (by simp [hr]), if_pos hst]
        rw [hst]
        refine sgo ?_
        refine sb1a (vs := EvM.cells ⟨firstE n es, q1, c1⟩) hS fun b36 w6 hS => ?_
        replace hS := hS.turn 0 (c' := pRow 4 (pb b36) 1 1 (([⟨firstE n es, q1, c1⟩] : List EvM).flatMap EvM.cells)) rfl (fun h => Row.of_own (n := 1) h rfl (by decide)) (fun x hx => hx)
        replace hS := ((((hS.drop 1 rfl).drop 1 rfl).zero).front 2 rfl).more.front 1 rfl
        refine sgo ?_
        refine wcloop (X := Nat × Option Addr × Nat × List EvM) (fun x => [(0, str n), (12, .slice x.2.1 (x.1 + 1) x.2.2.1), (37, .slice p ms.length c), (38, int ms.length), (39, int x.1)])
          (fun x wr => x.1 ≤ ms.length ∧ x.2.2.2.length = x.1 + 1 ∧ evs x.2.2.2 = firstE n es :: (evs ms).take x.1 ∧ Sep w wr [pRow 4 x.2.1 (x.1 + 1) x.2.2.1 (x.2.2.2.flatMap EvM.cells), pMany (x.2.2.2.map EvM.row)])
          (fun x => ms.length - x.1) (0, pb b36, 1, [⟨firstE n es, q1, c1⟩]) ⟨rfl, rfl, rfl, rfl, rfl, trivial⟩ ⟨Nat.zero_le _, rfl, rfl, hS⟩ ?_
        clear hS
        rintro ⟨i, q, cc, ns⟩ wr ρ ⟨hil, hnl, hev, hS⟩
        dsimp only at *
        have hIm := hE.im
        refine sgo ?_
        (show WC _ _ _ _ _ _ _; first | refine WC_dec rfl (fun hc => ?_) (fun hc => ?_) | refine WC_cond rfl (fun hc => ?_) (fun hc => ?_))
        · have hlt : i < ms.length := by omega
          have hx : ms[i]? = some ms[i] := List.getElem?_eq_getElem hlt
          have hmem : ms[i] ∈ ms := List.getElem_mem hlt
          have hseg := fm_seg EvM.len ms hx
          have hfl := fm_len EvM.len ms
          have hat := hE.each _ hmem
          have hsm := hs _ hmem
          have hps : ∃ a, p = some a := hE.im.sg.some (by omega)
          have htk : (evs ms).take (i + 1) = (evs ms).take i ++ [ms[i].e] := by rw [List.take_add_one, evs_at hx]; rfl
          generalize ms[i] = m at *
          clear hc
          obtain ⟨e, mp, mc⟩ := m
          dsimp only at hat hsm
          refine sgo ?_
          rw [hseg]
          refine salloc hS fun b5 w5 hS => ?_
          refine sgo ?_
          refine ssta (vs := e.cells mp mc) hS 0 fun w6 hS => ?_
          replace hS : Sep w w6 [pOwn b5 [int e.kind, str e.name, str e.text, .slice mp e.attrs.length mc], pRow 4 q (i + 1) cc (ns.flatMap EvM.cells), pMany (ns.map EvM.row)] := hS
          refine sgo ?_
          refine wlcall (evCopied_ok e mp mc hsm w w6 _ hS (hat.sep hS)) ?_
          rintro _ w7 ⟨q2, c2, rfl, -, hS⟩
          refine sgo ?_
          refine sb1a (vs := EvM.cells ⟨e, q2, c2⟩) hS fun b12 w12 hS => ?_
          refine sgo ?_
          refine sapp hS 3 (hS.own 0 rfl).sg (fun q4 c4 w13 hS => ?_) (h1 := ev_one _ _ _)
          rw [evs_flat] at hS
          refine sgo ?_
          have h1 := (hS.drop 0 rfl).drop 1 rfl
          have h2 := (((h1.front 2 rfl).front 1 rfl).more).front 1 rfl
          refine ⟨(i + 1, q4, c4, ns ++ [⟨e, q2, c2⟩]), ⟨rfl, rfl, rfl, rfl, rfl, trivial⟩, ⟨hlt, by simp [hnl], by dsimp only; rw [evs_snoc, hev, htk]; rfl, ?_⟩, (by (try dsimp only); omega)⟩
          rw [List.map_append]
          exact h2
        · obtain rfl : i = ms.length := by omega
          clear hc
          rw [← evs_len ms, List.take_length] at hev
          refine sgo ?_
          refine wlbuild ?_
          refine sb1a (vs := (closeM n).cells) hS fun b9 w9 hS => ?_
          refine sapp hS 1 (hS.own 0 rfl).sg (fun q4 c4 w10 hS => ?_) (h1 := ev_one _ _ _)
          rw [evs_flat] at hS
          refine sgo ?_
          (first | refine fp1 (.inl rfl) rfl rfl ?_ | refine fp2 (.inl rfl) rfl rfl rfl ?_ | refine fp3 (.inl rfl) rfl rfl rfl rfl ?_ | refine fp0 (.inr rfl) rfl ?_ | refine fp0 (.inl rfl) rfl ?_ | refine fp1 (.inr rfl) rfl rfl ?_)
          have hrow : (ns ++ [closeM n]).map EvM.row = ns.map EvM.row ++ [⟨2, none, 0, 0, []⟩] := by rw [List.map_append]; rfl
          refine ⟨q4, c4, ns ++ [closeM n], ?_, ?_, hS.frm, ?_⟩
          · rw [hC, List.length_append, hnl]; rfl
          · rw [evs_snoc, hev, wrapE, if_pos hC]; rfl
          · rw [List.length_append, hnl, hrow]
            have h1 := ((hS.drop 0 rfl).push (c := pRow 2 none 0 0 []) (Frm.refl _) (Row.nil _ 2) (by simp [pRow, rb]))
            have h2 := (((h1.front 2 rfl).front 1 rfl).more).front 1 rfl
            exact hS0.seq (ds := [_, _]) h2
      · have hC : wrapC (firstE n es) (lkR (evs ms)) = 181 := by rw [wrapC, if_neg (by simp [he]), if_neg (by simp [hr]), if_neg hst]
        have hpos : 0 < (lkR (evs ms)).stack.length := List.length_pos_iff.2 hst
        refine sgo ?_
        refine wcyes ?_ (ht := decide_eq_true (by omega))
        refine sgo ?_
        (first | refine fp1 (.inl rfl) rfl rfl ?_ | refine fp2 (.inl rfl) rfl rfl rfl ?_ | refine fp3 (.inl rfl) rfl rfl rfl rfl ?_ | refine fp0 (.inr rfl) rfl ?_ | refine fp0 (.inl rfl) rfl ?_ | refine fp1 (.inr rfl) rfl rfl ?_)
        exact hnil 181 (by decide) hC _ hS.frm
    · have hC : wrapC (firstE n es) (lkR (evs ms)) = (lkR (evs ms)).err := by rw [wrapC, if_neg (by simp [he]), if_pos hr]
      refine wcyes ?_ (ht := by simpa using hr)
      refine sgo ?_
      (first | refine fp1 (.inl rfl) rfl rfl ?_ | refine fp2 (.inl rfl) rfl rfl rfl ?_ | refine fp3 (.inl rfl) rfl rfl rfl rfl ?_ | refine fp0 (.inr rfl) rfl ?_ | refine fp0 (.inl rfl) rfl ?_ | refine fp1 (.inr rfl) rfl rfl ?_)
      exact hnil _ hr hC _ hS.frm
end Go.Proofs.YthgbpgjpnaanlaaDoor

/-
  sievelaw18: EventChecks.
-/
set_option linter.unusedSimpArgs false
set_option linter.unusedVariables false
set_option linter.unnecessarySimpa false
namespace Go.Sv
open Go Go.RowKit
section
variable {D : Type} {P : Program} {w0 w w' : World} {cs rest : List Plot} {σ : Env} {d : Option Tmp} {dd dj : Nat} {op : Op} {ty : TypeId} {pos : String} {af : Array Edge} {v : Value} {k j : Nat} {want : Bool} {ops : Array Oper} {T : Value → World → Prop} {B : Prop}
theorem y_ev (sl : List (Nat × Value)) (hs : Has σ sl) {g : Option (Nat × Bool)} (he : ev1 (updGL (lif σ) sl) op = some ⟨v, true⟩) : Y P σ ⟨d, op, ty, pos, af, g⟩ w v w := by
  have hy : Y P (real (updGL (lif σ) sl)) ⟨d, op, ty, pos, af, g⟩ w v w := ev1_ok he rfl
  rw [← frameOf sl hs] at hy
  exact hy
/-- one that only looks at what is known -/
theorem rule_e (sl : List (Nat × Value)) (hs : Has σ sl) (hT : T v w) (he : ev1 (updGL (lif σ) sl) op = some ⟨v, true⟩ := by rfl) :
    (Region.wanted (⟨d, op, ty, pos, af, none⟩ : Oper) (yl ops σ) = true ∧ comes P T ((execOp (evl σ) ⟨d, op, ty, pos, af, none⟩).run P w)) ∨ B := rule_y (y_ev sl hs he) hT
end
end Go.Sv
namespace Go.Proofs.YthgbpgjpnaanlaaDoor
open Go Go.Sv Go.RowKit

structure CkD where
  q : Option Addr
  c : Nat
  ns : List EvM
def ckP (ms ns : List EvM) (p q : Option Addr) (c cc : Nat) : Plan CkD where
  val k d := match k with
    | 0 | 3 | 8 | 9 | 14 | 20 => .slice p ms.length c
    | 1 | 4 => .slice q ns.length cc
    | 2 | 5 => .bool (decide (evs ms = evs ns))
    | 10 => .slice d.q d.ns.length d.c
    | 15 | 16 => .agg ⟨cnts (evs ms)⟩
    | 21 | 22 => str (textR (evs ms))
    | _ => .bool true
  pl k d := match k with
    | 10 => [pRow 4 d.q d.ns.length d.c (d.ns.flatMap EvM.cells), pMany (d.ns.map EvM.row)]
    | _ => []
  con k := match k with
    | 10 => some 11
    | _ => none
  fact k a := match k with
    | 10 => evs (a 10).ns = evs ms
    | _ => True
end Go.Proofs.YthgbpgjpnaanlaaDoor

/-
  Package event: Trim; sieveref18: Trim.
-/
set_option linter.unusedSimpArgs false
set_option linter.unusedVariables false
set_option linter.unnecessarySimpa false
namespace Go.Sv
open Go Go.RowKit
/-- a cut behind a piece of code that stands in a block -/
theorem wcutb {P : Program} {n i : Nat} {ds : Ctx} {K : Ctx → Env → World → Prop} {Q : Exit → Ctx → Env → World → Prop} {σ : Env} {w : World} {a : Code} {X : Type} (sl : X → List (Nat × Value)) (I : X → World → Prop)
    (ha : WC P n ds a (blk i (thl ds (fun σ w => ∃ x, Has σ (sl x) ∧ I x w) Q)) σ w) (hb : ∀ x w (ρ : GE), I x w → K ds (real (updGL ρ (sl x))) w) : WC P n ds a (blk i (thn K Q)) σ w := by
  refine WC_mono ha ?_
  have hn : ∀ c' σ' w', thl ds (fun σ w => ∃ x, Has σ (sl x) ∧ I x w) Q .normal c' σ' w' → thn K Q .normal c' σ' w' := by
    intro c' σ' w' h
    unfold thl at h
    unfold thn
    obtain ⟨rfl, x, h1, h2⟩ := h
    have := hb x w' (lif σ') h2
    rw [← real_updL, updL_has h1] at this
    exact this
  intro e c' σ' w' h
  unfold blk at h ⊢
  cases e with
  | normal => exact hn _ _ _ h
  | exit j =>
    dsimp only at h ⊢
    cases hj : Nat.beq j i with
    | true => rw [hj] at h; exact hn _ _ _ h
    | false => rw [hj] at h; unfold thl at h; unfold thn; exact h
  | _ => unfold thl at h; unfold thn; exact h
end Go.Sv
namespace Go.Proofs.YthgbpgjpnaanlaaDoor
open Go Go.Sv Go.RowKit

def opnE (e : Ev) (o : Int) : Int := if e.kind = 1 then o + 1 else if e.kind = 2 then o - 1 else o
def arndE (e : Ev) (o : Int) : Int := if e.kind = 2 then o - 1 else o
/-- does an event stay? -/
def keepE (d o : Int) (e : Ev) : Bool := if e.kind = 0 then decide (arndE e o ≤ d) else decide (arndE e o < d)
def trM (d : Int) (ms : List EvM) : Int × List EvM := ms.foldl (fun s m => (opnE m.e s.1, if keepE d s.1 m.e then s.2 ++ [m] else s.2)) (0, [])
def trI (d : Int) (ms : List EvM) (i : Nat) : Int × List EvM := trM d (ms.take i)
theorem trI_succ {d : Int} {ms : List EvM} {i : Nat} {m : EvM} (h : ms[i]? = some m) : trI d ms (i + 1) = (opnE m.e (trI d ms i).1, if keepE d (trI d ms i).1 m.e then (trI d ms i).2 ++ [m] else (trI d ms i).2) := by
  unfold trI trM
  rw [List.take_add_one, h, List.foldl_append]; rfl
theorem trI_all (d : Int) (ms : List EvM) : trI d ms ms.length = trM d ms := by unfold trI; rw [List.take_length]
theorem opnE_b (e : Ev) (o : Int) : o - 1 ≤ opnE e o ∧ opnE e o ≤ o + 1 := by
  unfold opnE
  split
  · omega
  · split <;> omega
theorem tr_bnd (d : Int) (ms : List EvM) (i : Nat) (hi : i ≤ ms.length) : -(i : Int) ≤ (trI d ms i).1 ∧ (trI d ms i).1 ≤ i ∧ (trI d ms i).2.length ≤ i ∧ ∀ m ∈ (trI d ms i).2, m ∈ ms := by
  induction i with
  | zero => exact ⟨Int.le_refl _, Int.le_refl _, Nat.le_refl _, fun m hm => by cases hm⟩
  | succ i ih =>
    have ih := ih (by omega)
    have hx : ms[i]? = some ms[i] := List.getElem?_eq_getElem (by omega)
    rw [trI_succ hx]
    have hb := opnE_b ms[i].e (trI d ms i).1
    refine ⟨by dsimp only; omega, by dsimp only; omega, ?_, ?_⟩
    · dsimp only
      split
      · rw [List.length_append]; have := ih.2.2.1; simp; omega
      · have := ih.2.2.1; omega
    · intro m hm
      dsimp only at hm
      split at hm
      · rcases List.mem_append.1 hm with h | h
        · exact ih.2.2.2 m h
        · rw [List.mem_singleton.1 h]; exact List.getElem_mem _
      · exact ih.2.2.2 m hm
theorem tr_evs (d : Int) (ms : List EvM) (i : Nat) {ns : List EvM} {m : EvM} (hx : ms[i]? = some m) (h : evs ns = evs (trI d ms i).2) {n : EvM} (hn : n.e = m.e) :
    evs (if keepE d (trI d ms i).1 m.e then ns ++ [n] else ns) = evs (trI d ms (i + 1)).2 := by
  rw [trI_succ hx]
  dsimp only
  split
  · rw [evs_snoc, evs_snoc, h, hn]
  · exact h
def trimC (d : Int) (k : Lk) : Int := if d < 0 then 1 else k.err
set_option maxHeartbeats 4000000 in
theorem trim_ok (d : Int) (ms : List EvM) (p : Option Addr) (c : Nat) (hn : ms.length ≤ 1048576) (hs : ∀ m ∈ ms, m.e.small) (w0 w : World) (cs : List Plot) (hS0 : Sep w0 w cs) (hA : Asc w) (hE : Evs w p ms) :
    CallsR Tryd.prog 37 #[int d, .slice p ms.length c] w fun v w' => ∃ q cc ns, v = .tuple #[.slice q ns.length cc, int (trimC d (lkR (evs ms)))] ∧ evs ns = (if trimC d (lkR (evs ms)) = 0 then evs (trM d ms).2 else []) ∧ Frm w w' ∧ Sep w0 w' (pRow 4 q ns.length cc (ns.flatMap EvM.cells) :: pMany (ns.map EvM.row) :: cs) := by
  have hS := Sep.start w
  have hnil : ∀ (k : Int), k ≠ 0 → trimC d (lkR (evs ms)) = k → ∀ w1, Frm w w1 → ∃ q cc ns, (Value.tuple #[.slice none 0 0, int k]) = .tuple #[.slice q (List.length ns) cc, int (trimC d (lkR (evs ms)))] ∧ evs ns = (if trimC d (lkR (evs ms)) = 0 then evs (trM d ms).2 else []) ∧ Frm w w1 ∧ Sep w0 w1 (pRow 4 q ns.length cc (ns.flatMap EvM.cells) :: pMany (ns.map EvM.row) :: cs) := by
    intro k h0 h1 w1 hf1
    refine ⟨none, 0, [], by rw [h1]; rfl, by rw [h1, if_neg h0]; rfl, hf1, ?_⟩
    exact ((hS0.grow hf1).zero).push (Frm.refl w1) (Row.nil w1 4) (by simp [pRow, rb])
  refine enter (l := [int d, .slice p ms.length c]) Tryd.func37 rfl Tryd.ntmps37 (by kernel_rfl) rfl ?_
  refine sgo ?_
  (show WC _ _ _ _ _ _ _; first | refine WC_dec rfl (fun hc => ?_) (fun hc => ?_) | refine WC_cond rfl (fun hc => ?_) (fun hc => ?_))
  · refine sgo ?_
    (first | refine fp1 (.inl rfl) rfl rfl ?_ | refine fp2 (.inl rfl) rfl rfl rfl ?_ | refine fp3 (.inl rfl) rfl rfl rfl rfl ?_ | refine fp0 (.inr rfl) rfl ?_ | refine fp0 (.inl rfl) rfl ?_ | refine fp1 (.inr rfl) rfl rfl ?_)
    exact hnil 1 (by decide) (if_pos hc) _ (Frm.refl _)
  have hd : ¬ d < 0 := hc
  clear hc
  have hC : trimC d (lkR (evs ms)) = (lkR (evs ms)).err := if_neg hd
  refine sgo ?_
  refine wlpure (nested_ok ms p c hn hs w hA hE) fun w1 hf1 => ?_
  replace hS := hS.grow hf1
  refine sgo ?_
  by_cases hr : (lkR (evs ms)).err = 0
  · refine wcno ?_ (ht := by simpa using hr)
    replace hS := ((hS.zero).push (c := pRow 4 none 0 0 []) (Frm.refl _) (Row.nil _ 4) (by simp [pRow, rb]))
    refine sgo ?_
    refine wcloop (X := Nat × Option Addr × Nat × List EvM) (fun x => [(0, int d), (8, .slice x.2.1 x.2.2.2.length x.2.2.1), (9, int (trI d ms x.1).1), (23, .slice p ms.length c), (24, int ms.length), (25, int x.1)])
      (fun x wr => x.1 ≤ ms.length ∧ evs x.2.2.2 = evs (trI d ms x.1).2 ∧ Sep w wr [pRow 4 x.2.1 x.2.2.2.length x.2.2.1 (x.2.2.2.flatMap EvM.cells), pMany (x.2.2.2.map EvM.row)])
      (fun x => ms.length - x.1) (0, none, 0, []) ⟨rfl, rfl, rfl, rfl, rfl, rfl, trivial⟩ ⟨Nat.zero_le _, rfl, hS⟩ ?_
    clear hS
    rintro ⟨i, q, cc, ns⟩ wr ρ ⟨hil, hev, hS⟩
    dsimp only at *
    have hb := tr_bnd d ms i hil
    have hnl : ns.length ≤ i := by rw [← evs_len, hev, evs_len]; exact hb.2.2.1
    obtain ⟨hb1, hb2, -, -⟩ := hb
    refine sgo ?_
    (show WC _ _ _ _ _ _ _; first | refine WC_dec rfl (fun hc => ?_) (fun hc => ?_) | refine WC_cond rfl (fun hc => ?_) (fun hc => ?_))
    · have hlt : i < ms.length := by omega
      have hIm := hE.im
      have hx : ms[i]? = some ms[i] := List.getElem?_eq_getElem hlt
      have hmem : ms[i] ∈ ms := List.getElem_mem hlt
      have hseg := fm_seg EvM.len ms hx
      have hfl := fm_len EvM.len ms
      have hat := hE.each _ hmem
      have hsm := hs _ hmem
      have hps : ∃ a, p = some a := hE.im.sg.some (by omega)
      have hte := tr_evs d ms i hx hev (n := ms[i]) rfl
      have hte2 : ∀ n : EvM, n.e = ms[i].e → _ := fun n h => tr_evs d ms i hx hev h
      have hop : (trI d ms (i + 1)).1 = opnE ms[i].e (trI d ms i).1 := by rw [trI_succ hx]
      generalize ms[i] = m at *
      generalize (trI d ms i).1 = o at *
      clear hc hte
      obtain ⟨⟨k, nm, tx, es⟩, mp, mc⟩ := m
      dsimp only at hat hsm hte2 hop
      refine sgo ?_
      rw [hseg]
      refine salloc hS fun b11 w5 hS => ?_
      refine sgo ?_
      refine ssta (vs := [int k, str nm, str tx, .slice mp es.length mc]) hS 0 fun w6 hS => ?_
      replace hS : Sep w w6 [pOwn b11 [int k, str nm, str tx, .slice mp es.length mc], pRow 4 q ns.length cc (ns.flatMap EvM.cells), pMany (ns.map EvM.row)] := hS
      refine sgo ?_
      refine wcutb (X := Unit) (fun _ => [(0, int d), (8, .slice q ns.length cc), (9, int (opnE ⟨k, nm, tx, es⟩ o)), (11, ptrAt (pb b11) 0), (12, int (arndE ⟨k, nm, tx, es⟩ o)), (23, .slice p ms.length c), (24, int ms.length), (25, int i)])
        (fun _ w' => w' = w6) ?_ ?_
      · by_cases h1 : k = 1
        · subst h1
          refine sgo ?_
          exact ⟨(), ⟨rfl, rfl, rfl, rfl, rfl, rfl, rfl, rfl, trivial⟩, rfl⟩
        · have e1 : opnE ⟨k, nm, tx, es⟩ o = if k = 2 then o - 1 else o := if_neg h1
          rw [e1]
          refine sgo ?_
          refine wcno ?_ (ht := decide_eq_false h1)
          by_cases h2 : k = 2
          · subst h2
            refine sgo ?_
            exact ⟨(), ⟨rfl, rfl, rfl, rfl, rfl, rfl, rfl, rfl, trivial⟩, rfl⟩
          · have e2 : arndE ⟨k, nm, tx, es⟩ o = o := if_neg h2
            rw [e2, if_neg h2]
            refine sgo ?_
            refine wcno ?_ (ht := decide_eq_false h2)
            refine sgo ?_
            exact ⟨(), ⟨rfl, rfl, rfl, rfl, rfl, rfl, rfl, rfl, trivial⟩, rfl⟩
      rintro _ w7 ρ2 rfl
      have hkp : keepE d o ⟨k, nm, tx, es⟩ = if k = 0 then decide (arndE ⟨k, nm, tx, es⟩ o ≤ d) else decide (arndE ⟨k, nm, tx, es⟩ o < d) := rfl
      generalize arndE ⟨k, nm, tx, es⟩ o = a at *
      generalize opnE ⟨k, nm, tx, es⟩ o = o' at *
      refine sgo ?_
      have hB : pkb (decide (a < d)) true (pkb (decide (k = 0)) (decide (a = d)) false) = keepE d o ⟨k, nm, tx, es⟩ := by
        rw [hkp]
        by_cases h0 : k = 0
        · rw [if_pos h0]; simp only [h0, pkb_or, pkb_and, decide_true, Bool.true_and]
          rw [← Bool.decide_or]; exact decide_eq_decide.2 (by omega)
        · rw [if_neg h0]; simp [h0, pkb_or, pkb_and]
      rw [hB]
      cases hke : keepE d o ⟨k, nm, tx, es⟩ with
      | true =>
        refine sgo ?_
        refine wlcall (evCopied_ok ⟨k, nm, tx, es⟩ mp mc hsm w _ _ hS (hat.sep hS)) ?_
        rintro _ w8 ⟨q2, c2, rfl, -, hS⟩
        refine sgo ?_
        refine sb1a (vs := EvM.cells ⟨⟨k, nm, tx, es⟩, q2, c2⟩) hS fun b12 w12 hS => ?_
        refine sgo ?_
        refine sapp hS 3 (hS.own 0 rfl).sg (fun q4 c4 w13 hS => ?_) (h1 := ev_one _ _ _)
        rw [evs_flat] at hS
        refine sgo ?_
        have h1 := (hS.drop 0 rfl).drop 1 rfl
        have h2 := (((h1.front 2 rfl).front 1 rfl).more).front 1 rfl
        have h3 := hte2 ⟨⟨k, nm, tx, es⟩, q2, c2⟩ rfl
        rw [if_pos hke] at h3
        refine ⟨(i + 1, q4, c4, ns ++ [⟨⟨k, nm, tx, es⟩, q2, c2⟩]), ⟨rfl, ?_, ?_, rfl, rfl, rfl, trivial⟩, ⟨hlt, h3, ?_⟩, (by (try dsimp only); omega)⟩
        · dsimp only; rw [List.length_append]; rfl
        · dsimp only; rw [hop]; rfl
        · dsimp only; rw [List.length_append, List.map_append]; exact h2
      | false =>
        refine sgo ?_
        have h3 := hte2 ⟨⟨k, nm, tx, es⟩, mp, mc⟩ rfl
        rw [if_neg (by rw [hke]; decide)] at h3
        refine ⟨(i + 1, q, cc, ns), ⟨rfl, rfl, ?_, rfl, rfl, rfl, trivial⟩, ⟨hlt, h3, hS.tail⟩, (by (try dsimp only); omega)⟩
        dsimp only; rw [hop]; rfl
    · obtain rfl : i = ms.length := by omega
      rw [trI_all] at hev
      refine sgo ?_
      (first | refine fp1 (.inl rfl) rfl rfl ?_ | refine fp2 (.inl rfl) rfl rfl rfl ?_ | refine fp3 (.inl rfl) rfl rfl rfl rfl ?_ | refine fp0 (.inr rfl) rfl ?_ | refine fp0 (.inl rfl) rfl ?_ | refine fp1 (.inr rfl) rfl rfl ?_)
      refine ⟨q, cc, ns, by rw [hC, hr]; rfl, by rw [hC, if_pos hr]; exact hev, hS.frm, hS0.seq (ds := [_, _]) hS⟩
  · refine wcyes ?_ (ht := by simpa using hr)
    refine sgo ?_
    (first | refine fp1 (.inl rfl) rfl rfl ?_ | refine fp2 (.inl rfl) rfl rfl rfl ?_ | refine fp3 (.inl rfl) rfl rfl rfl rfl ?_ | refine fp0 (.inr rfl) rfl ?_ | refine fp0 (.inl rfl) rfl ?_ | refine fp1 (.inr rfl) rfl rfl ?_)
    exact hnil _ hr hC _ hS.frm
end Go.Proofs.YthgbpgjpnaanlaaDoor

/-
  strings.Join (and Grow of a builder that has not been written).
-/
set_option linter.unusedSimpArgs false
set_option linter.unusedVariables false
set_option linter.unnecessarySimpa false
namespace Go.Sv
open Go Go.RowKit
section
variable {P : Program} {T E : TypeId} {w w' : World} {b : Nat} {q : Option Addr} {c : Nat} {s : List UInt8}
end
end Go.Sv
namespace Go.Proofs.YthgbpgjpnaanlaaDoor
open Go Go.Sv Go.RowKit

/-- texts, put together -/
def joinR (sep : List UInt8) : List (List UInt8) → List UInt8
  | [] => []
  | x :: r => x ++ r.flatMap fun y => sep ++ y
def tlen (l : List (List UInt8)) : Nat := (l.map List.length).sum
end Go.Proofs.YthgbpgjpnaanlaaDoor

/-
  Regions that draw their order, by a plan, where operations may also take (and write) what lay there before.
-/
set_option linter.unusedSimpArgs false
set_option linter.unusedVariables false
set_option linter.unnecessarySimpa false
namespace Go.Sv
open Go Go.RowKit
theorem perm5 {α : Type} (A B C D E : List α) : ((A ++ B) ++ ((C ++ D) ++ E)).Perm (A ++ (C ++ (E ++ (B ++ D)))) := by
  simp only [List.append_assoc]
  refine List.Perm.append_left _ ?_
  have h1 : (B ++ (C ++ (D ++ E))).Perm (C ++ (B ++ (D ++ E))) := by
    rw [← List.append_assoc B C, ← List.append_assoc C B]
    exact List.perm_append_comm.append_right _
  refine h1.trans (List.Perm.append_left _ ?_)
  rw [← List.append_assoc]
  exact List.perm_append_comm
theorem perm4 {α : Type} (A B C D : List α) : (A ++ (B ++ (C ++ D))).Perm ((A ++ C) ++ (D ++ B)) := by
  simp only [List.append_assoc]
  refine List.Perm.append_left _ ?_
  have h1 : (B ++ (C ++ D)).Perm ((C ++ D) ++ B) := List.perm_append_comm
  rw [List.append_assoc] at h1
  exact h1
theorem perm6 {α : Type} (A B C S D E : List α) : ((A ++ B) ++ ((C ++ (S ++ D)) ++ E)).Perm (A ++ (C ++ (S ++ (E ++ (B ++ D))))) := by
  refine (perm5 A B C (S ++ D) E).trans (List.Perm.append_left _ (List.Perm.append_left _ ?_))
  have h1 : (E ++ (B ++ (S ++ D))) = ((E ++ B) ++ S) ++ D := by simp only [List.append_assoc]
  have h2 : (S ++ (E ++ (B ++ D))) = (S ++ (E ++ B)) ++ D := by simp only [List.append_assoc]
  rw [h1, h2]
  exact List.perm_append_comm.append_right _
theorem perm7 {α : Type} (A S B C D : List α) : (A ++ (S ++ (B ++ (C ++ D)))).Perm ((A ++ C) ++ ((S ++ D) ++ B)) := by
  have h1 : (A ++ (S ++ (B ++ (C ++ D)))) = (A ++ ((S ++ B) ++ (C ++ D))) := by simp only [List.append_assoc]
  rw [h1]
  refine (perm4 A (S ++ B) C D).trans (List.Perm.append_left _ ?_)
  have h2 : (S ++ D) ++ B = S ++ (D ++ B) := by simp only [List.append_assoc]
  rw [h2]
  have h3 : D ++ (S ++ B) = (D ++ S) ++ B := by simp only [List.append_assoc]
  have h4 : S ++ (D ++ B) = (S ++ D) ++ B := by simp only [List.append_assoc]
  rw [h3, h4]
  exact List.perm_append_comm.append_right _
section
variable {P : Program} {n : Nat} {ds : Ctx} {Q : Exit → Ctx → Env → World → Prop} {S : (Nat → Bool) → Env → World → Prop} {σ : Env} {w : World} {m : Nat}
theorem wpOpIn_of_I {ops : Array Oper} {dd : List Deferred} {Q' : Exit → Act → World → Prop} {T : Value → World → Prop} {K : Act → World → Prop} {i : Nat} {o : Oper} {ro : Option Nat} (hino : operIn n ro.isSome ops o = true) (ho : ops[i]? = some o)
    (h : (Region.wanted o (yl ops σ) = true ∧ comes P T ((execOp (evl σ) o).run P w)) ∨ (Region.wanted o (yl ops σ) = false ∧ T undef w))
    (next : ∀ v w', T v w' → K ((act n dd σ).put o.dst v) w') : wpOpIn (fen ro) m P ops Q' i K (act n dd σ) w := by
  unfold wpOpIn
  simp only [ho]
  rw [act_yielded hino]
  rcases h with ⟨hw, hy⟩ | ⟨hw, hy⟩
  · rw [hw, if_pos rfl]
    refine ⟨fun _ _ => fen_fn _ _, ?_⟩
    rw [fen_round, semAt_in hino, act_exec hino]
    generalize (execOp (evl σ) o).run P w = r at *
    cases r with
    | ok x w' =>
      cases x <;> simp only [comes] at hy <;> simp only [Oper.uponIn]
      case value u => exact next _ _ hy
      case skip => exact next _ _ hy
      case enter g args =>
        refine ⟨fun h => (by rw [fen_depth] at h; cases h), callsIn_fen (Calls.mono hy ?_)⟩
        rintro e w'' ⟨v, rfl, h2⟩
        exact next _ _ h2
    | halt x w' => simp only [comes] at hy
  · rw [hw, if_neg Bool.false_ne_true]
    exact ⟨fun _ _ => fen_fn _ _, next _ _ hy⟩
theorem wpAnyIn_of_I {ops : Array Oper} {dd : List Deferred} {Q' : Exit → Act → World → Prop} {ro : Option Nat} (hf : fwdB ops = true) (hin : ops.toList.all (operIn n ro.isSome ops) = true) (hop : ∀ k o, ops[k]? = some o → StepI P ops S k o)
    (hQ : ∀ L σ w, (∀ k, k < ops.size → L k = true) → S L σ w → Q' .normal (act n dd σ) w) :
    ∀ (f : Nat) (listed : Array Bool) (σ : Env) (w : World), listed.size = ops.size → Clo ops (fl listed) → listed.toList.count false ≤ f → S (fl listed) σ w → wpAnyIn (fen ro) m P .any ops Q' f listed (act n dd σ) w
  | 0, listed, σ, w, hsz, _, hc, hS => by
    have hall : ∀ k, k < ops.size → fl listed k = true := by
      intro k hk
      cases hL : fl listed k with
      | true => rfl
      | false =>
        exfalso
        simp only [fl, Array.getD_eq_getD_getElem?, show k < listed.size from by omega, Array.getElem?_eq_getElem, Option.getD_some] at hL
        have : false ∈ listed.toList := by rw [← hL]; simp
        have := List.count_pos_iff.2 this
        omega
    refine ⟨?_, hQ _ _ _ hall hS⟩
    cases hr : Region.ready .any ops listed with
    | nil => rfl
    | cons i r =>
      exfalso
      have hi : i ∈ Region.ready .any ops listed := by rw [hr]; exact List.mem_cons_self
      obtain ⟨h0, o, ho, _⟩ := mem_ready.1 hi
      have hk : i < ops.size := (Array.getElem?_eq_some_iff.1 ho).1
      have := hall i hk
      simp only [fl, Array.getD_eq_getD_getElem?, show i < listed.size from by omega, Array.getElem?_eq_getElem, Option.getD_some] at this h0
      rw [this] at h0
      cases h0
  | f + 1, listed, σ, w, hsz, hcl, hc, hS => by
    refine ⟨fun hr => hQ _ _ _ (ready_of_fwd hf hsz hr) hS, fun i hi => ?_⟩
    obtain ⟨h0, o, ho, hall⟩ := mem_ready.1 hi
    have hio : i < ops.size := (Array.getElem?_eq_some_iff.1 ho).1
    have hlt : i < listed.size := by omega
    have h0' : listed[i] = false := by simpa [hlt] using h0
    have hup : Up ops o i (fl listed) := by
      refine ⟨by simp [fl, hlt, h0'], ?_, ?_⟩
      · intro j hj
        obtain ⟨e, he, hb, rfl⟩ := bindsOn_iff.1 hj
        exact hall e he hb
      · intro j oj hj hb
        cases hL : fl listed j with
        | false => rfl
        | true =>
          have h1 := hcl j oj hj hL i hb
          have h2 : fl listed i = true := h1
          simp [fl, hlt, h0'] at h2
    have hino : operIn n ro.isSome ops o = true := by
      rw [List.all_eq_true] at hin
      exact hin o (by simpa using Array.mem_of_getElem? ho)
    refine wpOpIn_of_I hino ho (hop i o ho _ σ w hup hS) fun v w' hw' => ?_
    rw [act_put (operIn_dst hino)]
    refine wpAnyIn_of_I hf hin hop hQ f _ _ _ (by simpa using hsz) (by rw [fl_set hlt]; exact clo_on hcl ho hup.did) ?_ (by rw [fl_set hlt]; exact hw')
    rw [Array.toList_setIfInBounds, List.count_set]
    · have hb : listed.toList[i]'(by simpa using hlt) = false := by simpa using h0'
      have hpos : 0 < listed.toList.count false := List.count_pos_iff.2 (by rw [← hb]; exact List.getElem_mem _)
      rw [hb]; simp only [beq_self_eq_true, if_true]; simp; rw [Array.count_toList] at *; omega
    · simpa using hlt
/-- a region that draws, within whatever round -/
theorem wcdrawir [hm : Mix P] {id : Nat} {ops : List Oper} (S : (Nat → Bool) → Env → World → Prop) (h0 : ∀ wd, Frm w wd → S (fun _ => false) σ wd) (hop : StepsI P ops.toArray S 0 ops)
    (hend : ∀ L σ' w', (∀ k, k < ops.length → L k = true) → S L σ' w' → Q .normal ds σ' w') (hf : fwdB ops.toArray = true := by kernel_rfl) : WC P n ds (.region id ops.toArray true) Q σ w := by
  unfold WC
  intro hin
  have hin' : ops.all (operIn n ds.ro.isSome ops.toArray) = true := by simpa [codeIn] using hin
  refine wpIn_region_any hm.ok ?_
  have e0 : fl (Array.replicate ops.toArray.size false) = fun _ => false := by funext k; exact getD_replicate_false _ _
  refine wpAnyIn_of_I (S := S) (n := n) hf (by simpa using hin') (fun k o ho => ?_) ?_ _ _ _ _ (by simp) ?_ ?_ ?_
  · have := stepsI_get hop k o (by simpa using ho)
    rwa [Nat.zero_add] at this
  · intro L σ' w' hL hS
    exact ⟨ds.ds, σ', rfl, hend L σ' w' (by simpa using hL) hS⟩
  · rw [e0]; intro j oj _ hL; cases hL
  · simp
  · rw [e0]; exact h0 _ (Frm.drawn (Frm.refl w))
end
/-- what an operation leaves: its value, and where what it made lies -/
structure PD (X : Type) where
  v : Value
  p : Option Addr
  c : Nat
  b : Nat
  x : X
structure PlanB (X : Type) where
  pl : Nat → PD X → List Plot
  con : Nat → Option Nat
  base : Nat → List Plot
  fact : Nat → (Nat → PD X) → Prop
section
variable {X : Type}
def PlanB.live (p : PlanB X) (L : Nat → Bool) (j : Nat) : Bool := L j && (match p.con j with | some c => !L c | none => true)
def PlanB.mem (p : PlanB X) (n : Nat) (L : Nat → Bool) (a : Nat → PD X) : List Plot := ((List.range n).filter (p.live L)).flatMap fun j => p.pl j (a j)
/-- what operation k takes -/
def PlanB.takes (p : PlanB X) (n k : Nat) (a : Nat → PD X) : List Plot := ((List.range n).filter fun j => decide (p.con j = some k)).flatMap fun j => p.pl j (a j)
/-- what lay there before and is still to be taken -/
def PlanB.bmem (p : PlanB X) (n : Nat) (L : Nat → Bool) : List Plot := ((List.range n).filter fun j => !L j).flatMap p.base
def PlanB.S (p : PlanB X) (w0 : World) (cs : List Plot) (σ0 : Env) (ops : List Oper) (L : Nat → Bool) (σ : Env) (w : World) : Prop :=
  (∀ s, (∀ (k : Nat) (o : Oper), ops[k]? = some o → L k = true → o.dst ≠ some s) → σ s = σ0 s) ∧
  ∃ a : Nat → PD X, (∀ (k : Nat) (o : Oper), ops[k]? = some o → L k = true → (∀ d, o.dst = some d → σ d = (a k).v) ∧ p.fact k a) ∧ Sep w0 w (p.mem ops.length L a ++ (p.bmem ops.length L ++ cs))
/-- what k can see of what is to be taken by those that wait for it -/
def seesB (ops : List Oper) (k j : Nat) : Bool := decide (j ≠ k) && (match ops[j]? with | some oj => bindsOn oj k | none => false)
def PlanB.seen (p : PlanB X) (ops : List Oper) (k : Nat) : List Plot := ((List.range ops.length).filter (seesB ops k)).flatMap p.base
/-- how operation k goes, by the plan -/
def PlanB.Rule (p : PlanB X) (P : Program) (w0 : World) (cs : List Plot) (σ0 : Env) (ops : List Oper) (k : Nat) (o : Oper) : Prop :=
  ∀ (a : Nat → PD X) (σ : Env) (w : World) (rest : List Plot), (∀ s, (∀ (j : Nat) (o : Oper), ops[j]? = some o → j ≠ k → bindsOn o k = false → o.dst ≠ some s) → σ s = σ0 s) →
    (∀ (j : Nat) (oj : Oper), bindsOn o j = true → ops[j]? = some oj → (∀ d, oj.dst = some d → σ d = (a j).v) ∧ p.fact j a) → Sep w0 w (p.takes ops.length k a ++ (p.base k ++ (p.seen ops k ++ (cs ++ rest)))) →
    (Region.wanted o (yl ops.toArray σ) = true ∧ comes P (fun v w' => ∃ d, v = d.v ∧ p.fact k (setD a k d) ∧ Sep w0 w' (p.pl k d ++ (p.seen ops k ++ (cs ++ rest)))) ((execOp (evl σ) o).run P w)) ∨
    (Region.wanted o (yl ops.toArray σ) = false ∧ ∃ d, undef = d.v ∧ p.fact k (setD a k d) ∧ Sep w0 w (p.pl k d ++ (p.seen ops k ++ (cs ++ rest))))
def PlanB.Rules (p : PlanB X) (P : Program) (w0 : World) (cs : List Plot) (σ0 : Env) (ops : List Oper) : Nat → List Oper → Prop
  | _, [] => True
  | k, o :: l => p.Rule P w0 cs σ0 ops k o ∧ p.Rules P w0 cs σ0 ops (k + 1) l
theorem planb_step {p : PlanB X} {P : Program} {w0 : World} {cs : List Plot} {σ0 : Env} {ops : List Oper} (hB : planB p.con ops = true)
    (hF : ∀ (j : Nat) (oj : Oper) (a a' : Nat → PD X), ops[j]? = some oj → a j = a' j → (∀ i, bindsOn oj i = true → a i = a' i) → p.fact j a → p.fact j a') {k : Nat} {o : Oper} (hk : ops[k]? = some o) (h : p.Rule P w0 cs σ0 ops k o) : StepI P ops.toArray (p.S w0 cs σ0 ops) k o := by
  rintro L σ w hu ⟨hσ, a, hA, hS⟩
  have hkn : k < ops.length := by
    rcases Nat.lt_or_ge k ops.length with h | h
    · exact h
    · rw [List.getElem?_eq_none h] at hk; cases hk
  have hcon : ∀ j c, j < ops.length → p.con j = some c → ∃ oc, ops[c]? = some oc ∧ bindsOn oc j = true := by
    intro j c hj hc
    have := List.all_eq_true.1 hB j (List.mem_range.2 hj)
    rw [Bool.and_eq_true, hc] at this
    have h1 := this.1
    simp only [Bool.and_eq_true, decide_eq_true_eq] at h1
    rw [List.getElem?_eq_getElem h1.1] at h1
    exact ⟨_, List.getElem?_eq_getElem h1.1, h1.2⟩
  have hdst : ∀ (i j : Nat) (oi oj : Oper) (d : Nat), ops[i]? = some oi → ops[j]? = some oj → i ≠ j → oi.dst = some d → oj.dst ≠ some d := by
    intro i j oi oj d hi hj hne hd
    have hjn : j < ops.length := (List.getElem?_eq_some_iff.1 hj).1
    have hin : i < ops.length := (List.getElem?_eq_some_iff.1 hi).1
    have := List.all_eq_true.1 hB j (List.mem_range.2 hjn)
    rw [Bool.and_eq_true] at this
    have := List.all_eq_true.1 this.2 i (List.mem_range.2 hin)
    rw [hi, hj] at this
    simp only [hne, decide_false, Bool.false_or, hd, decide_eq_true_eq] at this
    exact this
  -- what k takes, and the rest
  let q : Nat → Bool := fun j => p.live L j && !decide (p.con j = some k)
  let rest0 : List Plot := ((List.range ops.length).filter q).flatMap fun j => p.pl j (a j)
  let bm : List Plot := p.bmem ops.length (on L k)
  let bm2 : List Plot := (((List.range ops.length).filter fun j => !(on L k) j).filter fun j => !(seesB ops k j)).flatMap p.base
  let rest : List Plot := rest0 ++ bm2
  have hsee : bm.Perm (p.seen ops k ++ bm2) := by
    have h2 := List.filter_append_perm (seesB ops k) ((List.range ops.length).filter fun j => !(on L k) j)
    have h3 : ((List.range ops.length).filter fun j => !(on L k) j).filter (seesB ops k) = (List.range ops.length).filter (seesB ops k) := by
      rw [List.filter_filter]
      refine List.filter_congr fun j hj => ?_
      cases hs : seesB ops k j with
      | false => rfl
      | true =>
        unfold seesB at hs
        rw [Bool.and_eq_true, decide_eq_true_eq] at hs
        obtain ⟨hne, hs⟩ := hs
        cases ho : ops[j]? with
        | none => rw [ho] at hs; cases hs
        | some oj =>
          rw [ho] at hs
          have := hu.ahead j oj (by simpa using ho) hs
          simp [on_ne L hne, this]
    rw [h3] at h2
    have h4 := h2.symm.flatMap_right p.base
    rw [List.flatMap_append] at h4
    exact h4
  have hbm : (p.bmem ops.length L).Perm (p.base k ++ bm) := by
    have hl : (List.range ops.length).filter (fun j => !L j) = (List.range ops.length).filter fun j => decide (j = k) || !(on L k) j := by
      refine List.filter_congr fun j hj => ?_
      by_cases e : j = k
      · subst e; simp [hu.now]
      · simp [e, on_ne L e]
    show (((List.range ops.length).filter fun j => !L j).flatMap p.base).Perm _
    rw [hl]
    refine ((filter_insert (q := fun j => !(on L k) j) (by simp [on_same]) List.nodup_range (List.mem_range.2 hkn)).flatMap_right p.base).trans ?_
    rw [List.flatMap_cons]
    exact List.Perm.refl _
  have htake : (List.range ops.length).filter (fun j => p.live L j && decide (p.con j = some k)) = (List.range ops.length).filter fun j => decide (p.con j = some k) := by
    refine List.filter_congr fun j hj => ?_
    by_cases hc : p.con j = some k
    · obtain ⟨oc, ho, hb⟩ := hcon j k (List.mem_range.1 hj) hc
      rw [hk] at ho
      injection ho with ho
      subst ho
      have h1 := hu.did j hb
      simp [PlanB.live, hc, h1, hu.now]
    · simp [hc]
  have hperm : (p.mem ops.length L a ++ (p.bmem ops.length L ++ cs)).Perm (p.takes ops.length k a ++ (p.base k ++ (p.seen ops k ++ (cs ++ rest)))) := by
    have h1 : ((List.range ops.length).filter fun j => decide (p.con j = some k)) ++ ((List.range ops.length).filter q) |>.Perm ((List.range ops.length).filter (p.live L)) := by
      have h2 := List.filter_append_perm (fun j => decide (p.con j = some k)) ((List.range ops.length).filter (p.live L))
      rw [List.filter_filter, List.filter_filter] at h2
      rw [← htake]
      refine List.Perm.trans ?_ h2
      refine List.Perm.append (List.Perm.of_eq (List.filter_congr fun j _ => Bool.and_comm _ _)) (List.Perm.of_eq (List.filter_congr fun j _ => Bool.and_comm _ _))
    have h3 := (h1.symm.flatMap_right fun j => p.pl j (a j))
    rw [List.flatMap_append] at h3
    exact (h3.append ((hbm.trans (List.Perm.append_left _ hsee)).append_right cs)).trans (perm6 _ _ _ _ _ _)
  have hlive : ∀ d, (p.mem ops.length (on L k) (setD a k d)).Perm (p.pl k d ++ rest0) := by
    intro d
    have hq : q k = false := by simp [q, PlanB.live, hu.now]
    have hl : (List.range ops.length).filter (p.live (on L k)) = (List.range ops.length).filter fun j => decide (j = k) || q j := by
      refine List.filter_congr fun j hj => ?_
      by_cases e : j = k
      · subst e
        have : (match p.con j with | some c => !(on L j c) | none => true) = true := by
          cases hc : p.con j with
          | none => rfl
          | some c =>
            obtain ⟨oc, ho, hb⟩ := hcon j c hkn hc
            have h1 := hu.ahead c oc (by simpa using ho) hb
            have hne : c ≠ j := by
              intro e
              subst e
              rw [hk] at ho
              injection ho with ho
              subst ho
              have := hu.did c hb
              rw [hu.now] at this
              cases this
            simp [on_ne L hne, h1]
        simp only [PlanB.live, on_same, this, Bool.and_self, decide_true, Bool.true_or]
      · simp only [PlanB.live, on_ne L e, decide_eq_false e, Bool.false_or, q]
        cases hc : p.con j with
        | none => simp
        | some c =>
          by_cases ec : c = k
          · subst ec; simp [on_same]
          · have : ¬ (some c = some k) := fun h => ec (Option.some.inj h)
            simp [on_ne L ec, this]
    unfold PlanB.mem
    rw [hl]
    refine ((filter_insert hq List.nodup_range (List.mem_range.2 hkn)).flatMap_right fun j => p.pl j (setD a k d j)).trans ?_
    rw [List.flatMap_cons, setD_same]
    refine List.Perm.append_left _ (List.Perm.of_eq ?_)
    show _ = List.flatMap (fun j => p.pl j (a j)) (List.filter q (List.range ops.length))
    rw [List.flatMap_def, List.flatMap_def]
    refine congrArg _ (List.map_congr_left fun j hj => ?_)
    have : j ≠ k := by
      rintro rfl
      have := (List.mem_filter.1 hj).2
      rw [hq] at this; cases this
    rw [setD_ne a d this]
  have hnew : ∀ d w', p.fact k (setD a k d) → Sep w0 w' (p.pl k d ++ (p.seen ops k ++ (cs ++ rest))) → p.S w0 cs σ0 ops (on L k) (updO σ o.dst (d.v)) w' := by
    intro d w' hf hS'
    refine ⟨fun s hs => ?_, setD a k d, fun j oj hj hL => ?_, ?_⟩
    · have h1 := hs k o hk (on_same L k)
      have hs' : ∀ (j : Nat) (oj : Oper), ops[j]? = some oj → L j = true → oj.dst ≠ some s := fun j oj hj hL => hs j oj hj (by
        by_cases e : j = k
        · subst e; exact on_same L j
        · rw [on_ne L e]; exact hL)
      cases hd : o.dst with
      | none => exact hσ s hs'
      | some dd =>
        rw [hd] at h1
        exact (upd_ne σ _ (fun e => h1 (by rw [e]))).trans (hσ s hs')
    · by_cases e : j = k
      · subst e
        rw [hk] at hj
        injection hj with hj
        subst hj
        refine ⟨fun dd hd => ?_, hf⟩
        rw [hd, setD_same]
        exact upd_same σ dd _
      · rw [on_ne L e] at hL
        obtain ⟨h1, h2⟩ := hA j oj hj hL
        refine ⟨fun dd hd => ?_, ?_⟩
        · rw [setD_ne a d e, ← h1 dd hd]
          cases hdo : o.dst with
          | none => rfl
          | some d2 =>
            have := hdst k j o oj d2 hk hj (fun e2 => e e2.symm) hdo
            exact upd_ne σ _ (fun e2 => this (by rw [hd, e2]))
        · refine hF j oj a _ hj (setD_ne a d e).symm (fun i hi => ?_) h2
          have : i ≠ k := by
            rintro rfl
            have := hu.ahead j oj (by simpa using hj) hi
            rw [this] at hL; cases hL
          exact (setD_ne a d this).symm
    · refine hS'.perm ?_
      exact (perm7 _ _ _ _ _).trans ((hlive d).symm.append (hsee.symm.append_right cs))
  rcases h a σ w rest (fun s hs => hσ s fun j oj hj hL => hs j oj hj (fun e => by rw [e, hu.now] at hL; cases hL) (by
      cases hb : bindsOn oj k with
      | false => rfl
      | true => have := hu.ahead j oj (by simpa using hj) hb; rw [this] at hL; cases hL)) (fun j oj hb hj => hA j oj hj (hu.did j hb)) (hS.perm hperm) with ⟨h1, h2⟩ | ⟨h1, d, h2, h3, h4⟩
  · refine .inl ⟨h1, comes_mono (fun v w' => ?_) h2⟩
    rintro ⟨d, rfl, hf, hS'⟩
    exact hnew d w' hf hS'
  · refine .inr ⟨h1, ?_⟩
    rw [h2]
    exact hnew d w h3 h4
theorem planb_steps {p : PlanB X} {P : Program} {w0 : World} {cs : List Plot} {σ0 : Env} {ops : List Oper} (hB : planB p.con ops = true)
    (hF : ∀ (j : Nat) (oj : Oper) (a a' : Nat → PD X), ops[j]? = some oj → a j = a' j → (∀ i, bindsOn oj i = true → a i = a' i) → p.fact j a → p.fact j a') : ∀ (l : List Oper) (k : Nat), (∀ j o, l[j]? = some o → ops[k + j]? = some o) → p.Rules P w0 cs σ0 ops k l → StepsI P ops.toArray (p.S w0 cs σ0 ops) k l
  | [], _, _, _ => trivial
  | o :: l, k, hl, hr => ⟨planb_step hB hF (by simpa using hl 0 o rfl) hr.1, planb_steps hB hF l (k + 1) (fun j o' h => by rw [show k + 1 + j = k + (j + 1) from by omega]; exact hl (j + 1) o' (by simpa using h)) hr.2⟩
/-- a region that draws, by a plan -/
theorem wcplanb {P : Program} [hm : Mix P] {n : Nat} {ds : Ctx} {Q : Exit → Ctx → Env → World → Prop} {σ : Env} {w w0 : World} {id : Nat} {ops : List Oper} {cs b : List Plot} (p : PlanB X) (d0 : PD X) (hS : Sep w0 w (b ++ cs)) (hb : (List.range ops.length).flatMap p.base = b)
    (hF : ∀ (j : Nat) (oj : Oper) (a a' : Nat → PD X), ops[j]? = some oj → a j = a' j → (∀ i, bindsOn oj i = true → a i = a' i) → p.fact j a → p.fact j a')
    (hR : p.Rules P w0 cs σ ops 0 ops)
    (hend : ∀ (a : Nat → PD X) σ' w', (∀ s, (∀ (k : Nat) (o : Oper), ops[k]? = some o → o.dst ≠ some s) → σ' s = σ s) → (∀ (k : Nat) (o : Oper), ops[k]? = some o → (∀ d, o.dst = some d → σ' d = (a k).v) ∧ p.fact k a) →
      Sep w0 w' (((List.range ops.length).filter fun j => (p.con j).isNone).flatMap (fun j => p.pl j (a j)) ++ cs) → Q .normal ds σ' w')
    (hB : planB p.con ops = true := by kernel_rfl) (hf : fwdB ops.toArray = true := by kernel_rfl) : WC P n ds (.region id ops.toArray true) Q σ w := by
  refine wcdrawir (p.S w0 cs σ ops) (fun wd hwd => ⟨fun _ _ => rfl, fun _ => d0, fun _ _ _ h => absurd h Bool.false_ne_true, ?_⟩) (planb_steps hB hF ops 0 (fun j o h => by rwa [Nat.zero_add]) hR) ?_ hf
  · have e : p.mem ops.length (fun _ => false) (fun _ => d0) = [] := by
      unfold PlanB.mem
      rw [List.filter_eq_nil_iff.2 (by intro j _; simp [PlanB.live])]
      rfl
    have e2 : p.bmem ops.length (fun _ => false) = b := by
      rw [← hb]; unfold PlanB.bmem
      rw [List.filter_eq_self.2 (by intro j _; rfl)]
    rw [e, e2]
    exact hS.grow hwd
  · rintro L σ' w' hL ⟨hσ, a, hA, hS'⟩
    refine hend a σ' w' (fun s hs => hσ s fun k o hk _ => hs k o hk) (fun k o hk => hA k o hk (hL k (List.getElem?_eq_some_iff.1 hk).1)) ?_
    have e2 : p.bmem ops.length L = [] := by
      unfold PlanB.bmem
      rw [List.filter_eq_nil_iff.2 (by intro j hj; simp [hL j (List.mem_range.1 hj)])]
      rfl
    rw [e2] at hS'
    refine hS'.perm (List.Perm.append_right _ (List.Perm.of_eq ?_))
    unfold PlanB.mem
    congr 1
    refine List.filter_congr fun j hj => ?_
    have h1 := hL j (List.mem_range.1 hj)
    simp only [PlanB.live, h1, Bool.true_and]
    cases hc : p.con j with
    | none => rfl
    | some c =>
      have := List.all_eq_true.1 hB j hj
      rw [Bool.and_eq_true, hc] at this
      have h2 := this.1
      simp only [Bool.and_eq_true, decide_eq_true_eq] at h2
      simp [hL c h2.1]
end
theorem notDstB {ops : List Oper} {s k : Nat} (h : ((List.range ops.length).all fun j => match ops[j]? with | some o => decide (j = k) || bindsOn o k || decide (o.dst ≠ some s) | none => true) = true) :
    ∀ (j : Nat) (o : Oper), ops[j]? = some o → j ≠ k → bindsOn o k = false → o.dst ≠ some s := fun j o hj hne hb => by
  have := List.all_eq_true.1 h j (List.mem_range.2 (List.getElem?_eq_some_iff.1 hj).1)
  rw [hj] at this
  simpa [hne, hb] using this
end Go.Sv

/-
  Package event: Paths; sieveref18: Paths.
-/
set_option linter.unusedSimpArgs false
set_option linter.unusedVariables false
set_option linter.unnecessarySimpa false
namespace Go.Sv
open Go Go.RowKit
section
variable {P : Program} {w w' w0 : World} {t tx t' ty e e' : TypeId} {z : Value} {size bytes n m c c' k : Nat} {p q : Option Addr} {xs news : List Value} {x y : Operand} {cs : List Plot} {σ : Env} {d : Option Tmp} {pos : String} {af : Array Edge}
end
end Go.Sv
namespace Go.Proofs.YthgbpgjpnaanlaaDoor
open Go Go.Sv Go.RowKit

/-- the way of an element in others -/
def pthR (st : List (List UInt8)) (x : List UInt8) : List UInt8 := (st.flatMap fun n => n ++ [47]) ++ x
def nmw (st : List (List UInt8)) : Nat := (st.map fun n => n.length + 1).sum
theorem sum_take_le {α : Type} (f : α → Nat) (l : List α) (i : Nat) : ((l.take i).map f).sum ≤ (l.map f).sum := by
  have h : (l.map f).sum = ((l.take i).map f).sum + ((l.drop i).map f).sum := by
    rw [← List.sum_append, ← List.map_append, List.take_append_drop]
  omega
/-- where elements stand, of the first i -/
def pathsI (ms : List EvM) : Nat → List (List UInt8)
  | 0 => []
  | i + 1 => pathsI ms i ++ (match ms[i]? with | some m => if m.e.kind = 1 ∨ m.e.kind = 3 then [pthR (lkI ms i).stack m.e.name] else [] | none => [])
def pthP (b7 b9 : Nat) (q q6 : Option Addr) (cc c6 : Nat) (st out : List (List UInt8)) (nm : List UInt8) : PlanB Unit where
  pl k d := match k with
    | 12 => [pOwn d.b [str nm]]
    | 13 => [pRow 1 d.p (st.length + 1) d.c (strs st ++ [str nm])]
    | 15 => [pOwn d.b [str (pthR st nm)]]
    | 16 => [pRow 1 d.p (out.length + 1) d.c (strs out ++ [str (pthR st nm)])]
    | _ => []
  con k := match k with
    | 12 => some 13
    | 13 => some 14
    | 15 => some 16
    | _ => none
  base k := match k with
    | 16 => [pRow 1 q6 out.length c6 (strs out)]
    | _ => []
  fact k a := match k with
    | 0 => (a 0).v = .slice q6 out.length c6
    | 1 => (a 1).v = ptrAt (pb b7) 0
    | 2 => (a 2).v = .slice q st.length cc
    | 3 => (a 3).v = ptrAt (pb b7) 0
    | 4 => (a 4).v = .slice q st.length cc
    | 5 => (a 5).v = int st.length
    | 6 => (a 6).v = ptrAt (pb b7) 0
    | 7 => (a 7).v = .slice q st.length cc
    | 8 => (a 8).v = int st.length
    | 9 => (a 9).v = .slice q st.length st.length
    | 10 => (a 10).v = ptrAt (pb b9) 1
    | 11 => (a 11).v = str nm
    | 12 => (a 12).v = .slice (pb (a 12).b) 1 1
    | 13 => (a 13).v = .slice (a 13).p (st.length + 1) (a 13).c
    | 14 => (a 14).v = str (pthR st nm)
    | 15 => (a 15).v = .slice (pb (a 15).b) 1 1
    | 16 => (a 16).v = .slice (a 16).p (out.length + 1) (a 16).c
    | 17 => (a 17).v = .slice (a 16).p (out.length + 1) (a 16).c
    | _ => True
theorem lkI_right {ms : List EvM} (h : (lkR (evs ms)).err = 0) (i : Nat) : (lkI ms i).err = 0 := by
  rcases Classical.em ((lkI ms i).err = 0) with h0 | h0
  · exact h0
  · rw [lkI_stop h0] at h; exact absurd h h0
def slashes (st : List (List UInt8)) (j : Nat) : List UInt8 := (st.take j).flatMap fun n => n ++ [47]
theorem fm_take {α : Type} {f : α → List Value} {k : Nat} (h : ∀ x, (f x).length = k) (l : List α) (i : Nat) : (l.flatMap f).take (i * k) = (l.take i).flatMap f := by
  induction l generalizing i with
  | nil => simp
  | cons x l ih =>
    cases i with
    | zero => simp
    | succ i =>
      rw [List.flatMap_cons, List.take_succ_cons, List.flatMap_cons, ← ih i, List.take_append, h, List.take_of_length_le (by rw [h, Nat.succ_mul]; omega)]
      congr 2
      rw [Nat.succ_mul]; omega
theorem Evs.take {w : World} {p : Option Addr} {ms : List EvM} (h : Evs w p ms) (i : Nat) : Evs w p (ms.take i) := by
  refine ⟨?_, fun m hm => h.each m (List.mem_of_mem_take hm)⟩
  have := h.im.take (i * 4)
  rwa [fm_take EvM.len] at this
end Go.Proofs.YthgbpgjpnaanlaaDoor

/-
  sievelaw18: EventWraps.
-/
set_option linter.unusedSimpArgs false
set_option linter.unusedVariables false
set_option linter.unnecessarySimpa false
namespace Go.Proofs.YthgbpgjpnaanlaaDoor
open Go Go.Sv Go.RowKit

/-- what is known in the region that puts the wanted events together -/
structure WrD where
  v : Value
  b : Nat
  q : Option Addr
  c : Nat
  ns : List EvM
def wrP (n : List UInt8) (es : List At) (pa : Option Addr) (ca : Nat) (ms : List EvM) (p : Option Addr) (c : Nat) : Plan WrD where
  val _ d := d.v
  pl k d := match k with
    | 1 => [pOwn d.b (EvM.cells ⟨firstE n es, pa, ca⟩)]
    | 3 => [pRow 4 d.q d.ns.length d.c (d.ns.flatMap EvM.cells), pMany (d.ns.map EvM.row)]
    | 4 => [pRow 4 d.q (1 + d.ns.length) d.c (EvM.cells ⟨firstE n es, pa, ca⟩ ++ d.ns.flatMap EvM.cells), pMany (d.ns.map EvM.row)]
    | 7 => [pOwn d.b (closeM n).cells]
    | 8 => [pRow 4 d.q (1 + d.ns.length + 1) d.c (EvM.cells ⟨firstE n es, pa, ca⟩ ++ d.ns.flatMap EvM.cells ++ (closeM n).cells), pMany (d.ns.map EvM.row)]
    | 9 => [pRow 4 d.q (1 + d.ns.length + 1) d.c (EvM.cells ⟨firstE n es, pa, ca⟩ ++ d.ns.flatMap EvM.cells ++ (closeM n).cells), pMany (d.ns.map EvM.row)]
    | _ => []
  con k := match k with
    | 1 => some 4
    | 3 => some 4
    | 4 => some 8
    | 7 => some 8
    | 8 => some 9
    | _ => none
  fact k a := match k with
    | 0 => (a 0).v = .agg ⟨EvM.cells ⟨firstE n es, pa, ca⟩⟩
    | 1 => (a 1).v = .slice (pb (a 1).b) 1 1
    | 2 => (a 2).v = .slice p ms.length c
    | 3 => (a 3).v = .slice (a 3).q (a 3).ns.length (a 3).c ∧ evs (a 3).ns = evs ms
    | 4 => (a 4).v = .slice (a 4).q (1 + (a 4).ns.length) (a 4).c ∧ evs (a 4).ns = evs ms
    | 5 => (a 5).v = str n
    | 6 => (a 6).v = .agg ⟨(closeM n).cells⟩
    | 7 => (a 7).v = .slice (pb (a 7).b) 1 1
    | 8 => (a 8).v = .slice (a 8).q (1 + (a 8).ns.length + 1) (a 8).c ∧ evs (a 8).ns = evs ms
    | 9 => (a 9).v = .slice (a 9).q (1 + (a 9).ns.length + 1) (a 9).c ∧ evs (a 9).ns = evs ms
    | _ => True
end Go.Proofs.YthgbpgjpnaanlaaDoor

/-
  sievelaw18: EventTrims.
-/
set_option linter.unusedSimpArgs false
set_option linter.unusedVariables false
set_option linter.unnecessarySimpa false
namespace Go.Sv
open Go Go.RowKit
/-- a guarded operation whose guard says no -/
theorem wlskipg {P : Program} {n : Nat} {ds : Ctx} {ops : Array Oper} {Q : Exit → Ctx → Env → World → Prop} {rest : List Oper} {σ : GE} {w : World} {d : Nat} {op : Op} {ty : TypeId} {pos : String} {af : Array Edge} {j dj : Nat} {want b c : Bool} (v : Value)
    (h : WL P n ds ops Q rest (real (updG σ d ⟨v, false⟩)) w)
    (hj : (ops[j]?).bind (·.dst) = some dj := by rfl) (hσ : σ dj = ⟨.bool c, b⟩ := by rfl) (hgt : (b && (c == want)) = false) :
    WL P n ds ops Q (⟨some d, op, ty, pos, af, some (j, want)⟩ :: rest) (real σ) w := by
  have hw := wanted_real (ops := ops) (o := ⟨some d, op, ty, pos, af, some (j, want)⟩) rfl hj hσ
  rw [hgt] at hw
  refine WL_skip hw ?_
  rw [← real_upd] at h
  exact h
end Go.Sv
namespace Go.Proofs.YthgbpgjpnaanlaaDoor
open Go Go.Sv Go.RowKit

end Go.Proofs.YthgbpgjpnaanlaaDoor

/-
  Package event: Walk.
-/
set_option linter.unusedSimpArgs false
set_option linter.unusedVariables false
set_option linter.unnecessarySimpa false
namespace Go.Sv
open Go Go.RowKit
/-- a store into a block of one's own -/
theorem y_sst {P : Program} {σ : Env} {w0 w : World} {cs : List Plot} {ty t : TypeId} {pos : String} {af : Array Edge} {g : Option (Nat × Bool)} {x y : Operand} {zv v : Value} {size bytes b j : Nat} {l : List Value} [hi : Inf P t zv size bytes] (hS : Sep w0 w cs) (i : Nat) (hc : cs[i]? = some (pOwn b l)) (hx : evl σ x = ptrAt (pb b) j) (hy : evl σ y = v) (hv : v.cells.size = size) (hk : j + size ≤ l.length) (h1 : ∀ u ∈ v.cells.toList, u.oneCell' = true) :
    ∃ w', Y P σ ⟨none, .store t x y, ty, pos, af, g⟩ w undef w' ∧ Sep w0 w' (cs.set i (pOwn b (l.take j ++ v.cells.toList ++ l.drop (j + size)))) := by
  obtain ⟨w', hr, h2, h3⟩ := run_store_own (P := P) (t := t) (hS.own i hc) hv hk h1
  refine ⟨w', Y.skip ?_, hS.upd i hc (lm_own h3) h2⟩
  simp only [execOp, hx, hy]
  rw [Sem.run_bind, hr]
  rfl
end Go.Sv
namespace Go.Proofs.YthgbpgjpnaanlaaDoor
open Go Go.Sv Go.RowKit
def wlkP (b3 b5 : Nat) (q : Option Addr) (cc : Nat) (ns : List EvM) (m : EvM) : PlanB (Option Addr × Nat) where
  pl k d := match k with
    | 2 => [pRow 2 d.x.1 m.e.attrs.length d.x.2 (m.e.attrs.flatMap At.cells)]
    | 3 => [pOwn d.b (m.e.cells d.x.1 d.x.2)]
    | 4 => [pRow 4 d.p (ns.length + 1) d.c (ns.flatMap EvM.cells ++ m.e.cells d.x.1 d.x.2)]
    | 5 => [pOwn b3 [.slice d.p (ns.length + 1) d.c]]
    | _ => []
  con k := match k with
    | 3 => some 4
    | _ => none
  base k := match k with
    | 4 => [pRow 4 q ns.length cc (ns.flatMap EvM.cells)]
    | 5 => [pOwn b3 [.slice q ns.length cc]]
    | _ => []
  fact k a := match k with
    | 0 => (a 0).v = .slice q ns.length cc
    | 1 => (a 1).v = .agg ⟨m.cells⟩
    | 2 => (a 2).v = .agg ⟨m.e.cells (a 2).x.1 (a 2).x.2⟩
    | 3 => (a 3).v = .slice (pb (a 3).b) 1 1 ∧ (a 3).x = (a 2).x
    | 4 => (a 4).v = .slice (a 4).p (ns.length + 1) (a 4).c ∧ (a 4).x = (a 3).x
    | 5 => (a 5).p = (a 4).p ∧ (a 5).c = (a 4).c
    | _ => True
end Go.Proofs.YthgbpgjpnaanlaaDoor

/- This seat's function types as instances (made by a program of ours). -/
namespace Go.Proofs.YthgbpgjpnaanlaaDoor
open Go Go.Sv
instance : Agg Tryd.prog 1 false := ⟨_, Tryd.underlying1, rfl⟩
instance : Inf Tryd.prog 1 (.nilFunc) 1 8 := ⟨by kernel_rfl⟩
instance : Agg Tryd.prog 22 false := ⟨_, Tryd.underlying22, rfl⟩
instance : Inf Tryd.prog 22 (.nilFunc) 1 8 := ⟨by kernel_rfl⟩
instance : Agg Tryd.prog 24 false := ⟨_, Tryd.underlying24, rfl⟩
instance : Inf Tryd.prog 24 (.nilFunc) 1 8 := ⟨by kernel_rfl⟩
instance : Agg Tryd.prog 26 false := ⟨_, Tryd.underlying26, rfl⟩
instance : Inf Tryd.prog 26 (.nilFunc) 1 8 := ⟨by kernel_rfl⟩
instance : Agg Tryd.prog 28 false := ⟨_, Tryd.underlying28, rfl⟩
instance : Inf Tryd.prog 28 (.nilFunc) 1 8 := ⟨by kernel_rfl⟩
instance : Agg Tryd.prog 31 false := ⟨_, Tryd.underlying31, rfl⟩
instance : Inf Tryd.prog 31 (.nilFunc) 1 8 := ⟨by kernel_rfl⟩
instance : Agg Tryd.prog 33 false := ⟨_, Tryd.underlying33, rfl⟩
instance : Inf Tryd.prog 33 (.nilFunc) 1 8 := ⟨by kernel_rfl⟩
instance : Agg Tryd.prog 36 false := ⟨_, Tryd.underlying36, rfl⟩
instance : Inf Tryd.prog 36 (.nilFunc) 1 8 := ⟨by kernel_rfl⟩
instance : Agg Tryd.prog 37 false := ⟨_, Tryd.underlying37, rfl⟩
instance : Inf Tryd.prog 37 (.nilFunc) 1 8 := ⟨by kernel_rfl⟩
instance : Agg Tryd.prog 38 false := ⟨_, Tryd.underlying38, rfl⟩
instance : Inf Tryd.prog 38 (.nilFunc) 1 8 := ⟨by kernel_rfl⟩
instance : Agg Tryd.prog 39 false := ⟨_, Tryd.underlying39, rfl⟩
instance : Inf Tryd.prog 39 (.nilFunc) 1 8 := ⟨by kernel_rfl⟩
instance : Agg Tryd.prog 40 false := ⟨_, Tryd.underlying40, rfl⟩
instance : Inf Tryd.prog 40 (.nilFunc) 1 8 := ⟨by kernel_rfl⟩
instance : Agg Tryd.prog 41 false := ⟨_, Tryd.underlying41, rfl⟩
instance : Inf Tryd.prog 41 (.nilFunc) 1 8 := ⟨by kernel_rfl⟩
instance : Agg Tryd.prog 42 false := ⟨_, Tryd.underlying42, rfl⟩
instance : Inf Tryd.prog 42 (.nilFunc) 1 8 := ⟨by kernel_rfl⟩
instance : Agg Tryd.prog 43 false := ⟨_, Tryd.underlying43, rfl⟩
instance : Inf Tryd.prog 43 (.nilFunc) 1 8 := ⟨by kernel_rfl⟩
instance : Agg Tryd.prog 44 false := ⟨_, Tryd.underlying44, rfl⟩
instance : Inf Tryd.prog 44 (.nilFunc) 1 8 := ⟨by kernel_rfl⟩
instance : Agg Tryd.prog 49 false := ⟨_, Tryd.underlying49, rfl⟩
instance : Inf Tryd.prog 49 (.nilFunc) 1 8 := ⟨by kernel_rfl⟩
instance : Agg Tryd.prog 52 false := ⟨_, Tryd.underlying52, rfl⟩
instance : Inf Tryd.prog 52 (.nilFunc) 1 8 := ⟨by kernel_rfl⟩
instance : Agg Tryd.prog 53 false := ⟨_, Tryd.underlying53, rfl⟩
instance : Inf Tryd.prog 53 (.nilFunc) 1 8 := ⟨by kernel_rfl⟩
instance : Agg Tryd.prog 54 false := ⟨_, Tryd.underlying54, rfl⟩
instance : Inf Tryd.prog 54 (.nilFunc) 1 8 := ⟨by kernel_rfl⟩
instance : Agg Tryd.prog 55 false := ⟨_, Tryd.underlying55, rfl⟩
instance : Inf Tryd.prog 55 (.nilFunc) 1 8 := ⟨by kernel_rfl⟩
instance : Agg Tryd.prog 58 false := ⟨_, Tryd.underlying58, rfl⟩
instance : Inf Tryd.prog 58 (.nilFunc) 1 8 := ⟨by kernel_rfl⟩
instance : Agg Tryd.prog 59 false := ⟨_, Tryd.underlying59, rfl⟩
instance : Inf Tryd.prog 59 (.nilFunc) 1 8 := ⟨by kernel_rfl⟩
instance : Agg Tryd.prog 61 false := ⟨_, Tryd.underlying61, rfl⟩
instance : Inf Tryd.prog 61 (.nilFunc) 1 8 := ⟨by kernel_rfl⟩
instance : Agg Tryd.prog 62 false := ⟨_, Tryd.underlying62, rfl⟩
instance : Inf Tryd.prog 62 (.nilFunc) 1 8 := ⟨by kernel_rfl⟩
instance : Agg Tryd.prog 63 false := ⟨_, Tryd.underlying63, rfl⟩
instance : Inf Tryd.prog 63 (.nilFunc) 1 8 := ⟨by kernel_rfl⟩
instance : Agg Tryd.prog 64 false := ⟨_, Tryd.underlying64, rfl⟩
instance : Inf Tryd.prog 64 (.nilFunc) 1 8 := ⟨by kernel_rfl⟩
instance : Agg Tryd.prog 65 false := ⟨_, Tryd.underlying65, rfl⟩
instance : Inf Tryd.prog 65 (.nilFunc) 1 8 := ⟨by kernel_rfl⟩
instance : Agg Tryd.prog 66 false := ⟨_, Tryd.underlying66, rfl⟩
instance : Inf Tryd.prog 66 (.nilFunc) 1 8 := ⟨by kernel_rfl⟩
instance : Agg Tryd.prog 67 false := ⟨_, Tryd.underlying67, rfl⟩
instance : Inf Tryd.prog 67 (.nilFunc) 1 8 := ⟨by kernel_rfl⟩
instance : Agg Tryd.prog 68 false := ⟨_, Tryd.underlying68, rfl⟩
instance : Inf Tryd.prog 68 (.nilFunc) 1 8 := ⟨by kernel_rfl⟩
instance : Agg Tryd.prog 69 false := ⟨_, Tryd.underlying69, rfl⟩
instance : Inf Tryd.prog 69 (.nilFunc) 1 8 := ⟨by kernel_rfl⟩
instance : Agg Tryd.prog 73 false := ⟨_, Tryd.underlying73, rfl⟩
instance : Inf Tryd.prog 73 (.nilFunc) 1 8 := ⟨by kernel_rfl⟩
instance : Agg Tryd.prog 75 false := ⟨_, Tryd.underlying75, rfl⟩
instance : Inf Tryd.prog 75 (.nilFunc) 1 8 := ⟨by kernel_rfl⟩
instance : Agg Tryd.prog 77 false := ⟨_, Tryd.underlying77, rfl⟩
instance : Inf Tryd.prog 77 (.nilFunc) 1 8 := ⟨by kernel_rfl⟩
instance : Agg Tryd.prog 78 false := ⟨_, Tryd.underlying78, rfl⟩
instance : Inf Tryd.prog 78 (.nilFunc) 1 8 := ⟨by kernel_rfl⟩
instance : Agg Tryd.prog 79 false := ⟨_, Tryd.underlying79, rfl⟩
instance : Inf Tryd.prog 79 (.nilFunc) 1 8 := ⟨by kernel_rfl⟩
instance : Agg Tryd.prog 80 false := ⟨_, Tryd.underlying80, rfl⟩
instance : Inf Tryd.prog 80 (.nilFunc) 1 8 := ⟨by kernel_rfl⟩
instance : Agg Tryd.prog 81 false := ⟨_, Tryd.underlying81, rfl⟩
instance : Inf Tryd.prog 81 (.nilFunc) 1 8 := ⟨by kernel_rfl⟩
instance : Agg Tryd.prog 82 false := ⟨_, Tryd.underlying82, rfl⟩
instance : Inf Tryd.prog 82 (.nilFunc) 1 8 := ⟨by kernel_rfl⟩
instance : Agg Tryd.prog 83 false := ⟨_, Tryd.underlying83, rfl⟩
instance : Inf Tryd.prog 83 (.nilFunc) 1 8 := ⟨by kernel_rfl⟩
instance : Agg Tryd.prog 84 false := ⟨_, Tryd.underlying84, rfl⟩
instance : Inf Tryd.prog 84 (.nilFunc) 1 8 := ⟨by kernel_rfl⟩
instance : Agg Tryd.prog 86 false := ⟨_, Tryd.underlying86, rfl⟩
instance : Inf Tryd.prog 86 (.nilFunc) 1 8 := ⟨by kernel_rfl⟩
instance : Agg Tryd.prog 92 false := ⟨_, Tryd.underlying92, rfl⟩
instance : Inf Tryd.prog 92 (.nilFunc) 1 8 := ⟨by kernel_rfl⟩
instance : Agg Tryd.prog 94 false := ⟨_, Tryd.underlying94, rfl⟩
instance : Inf Tryd.prog 94 (.nilFunc) 1 8 := ⟨by kernel_rfl⟩
instance : Agg Tryd.prog 95 false := ⟨_, Tryd.underlying95, rfl⟩
instance : Inf Tryd.prog 95 (.nilFunc) 1 8 := ⟨by kernel_rfl⟩
instance : Agg Tryd.prog 96 false := ⟨_, Tryd.underlying96, rfl⟩
instance : Inf Tryd.prog 96 (.nilFunc) 1 8 := ⟨by kernel_rfl⟩
instance : Agg Tryd.prog 97 false := ⟨_, Tryd.underlying97, rfl⟩
instance : Inf Tryd.prog 97 (.nilFunc) 1 8 := ⟨by kernel_rfl⟩
instance : Agg Tryd.prog 98 false := ⟨_, Tryd.underlying98, rfl⟩
instance : Inf Tryd.prog 98 (.nilFunc) 1 8 := ⟨by kernel_rfl⟩
instance : Agg Tryd.prog 105 false := ⟨_, Tryd.underlying105, rfl⟩
instance : Inf Tryd.prog 105 (.nilFunc) 1 8 := ⟨by kernel_rfl⟩
instance : Agg Tryd.prog 106 false := ⟨_, Tryd.underlying106, rfl⟩
instance : Inf Tryd.prog 106 (.nilFunc) 1 8 := ⟨by kernel_rfl⟩
instance : Agg Tryd.prog 109 false := ⟨_, Tryd.underlying109, rfl⟩
instance : Inf Tryd.prog 109 (.nilFunc) 1 8 := ⟨by kernel_rfl⟩
instance : Agg Tryd.prog 110 false := ⟨_, Tryd.underlying110, rfl⟩
instance : Inf Tryd.prog 110 (.nilFunc) 1 8 := ⟨by kernel_rfl⟩
instance : Agg Tryd.prog 111 false := ⟨_, Tryd.underlying111, rfl⟩
instance : Inf Tryd.prog 111 (.nilFunc) 1 8 := ⟨by kernel_rfl⟩
instance : Agg Tryd.prog 112 false := ⟨_, Tryd.underlying112, rfl⟩
instance : Inf Tryd.prog 112 (.nilFunc) 1 8 := ⟨by kernel_rfl⟩
instance : Agg Tryd.prog 115 false := ⟨_, Tryd.underlying115, rfl⟩
instance : Inf Tryd.prog 115 (.nilFunc) 1 8 := ⟨by kernel_rfl⟩
instance : Agg Tryd.prog 116 false := ⟨_, Tryd.underlying116, rfl⟩
instance : Inf Tryd.prog 116 (.nilFunc) 1 8 := ⟨by kernel_rfl⟩
instance : Agg Tryd.prog 120 false := ⟨_, Tryd.underlying120, rfl⟩
instance : Inf Tryd.prog 120 (.nilFunc) 1 8 := ⟨by kernel_rfl⟩
instance : Agg Tryd.prog 121 false := ⟨_, Tryd.underlying121, rfl⟩
instance : Inf Tryd.prog 121 (.nilFunc) 1 8 := ⟨by kernel_rfl⟩
instance : Agg Tryd.prog 123 false := ⟨_, Tryd.underlying123, rfl⟩
instance : Inf Tryd.prog 123 (.nilFunc) 1 8 := ⟨by kernel_rfl⟩
instance : Agg Tryd.prog 124 false := ⟨_, Tryd.underlying124, rfl⟩
instance : Inf Tryd.prog 124 (.nilFunc) 1 8 := ⟨by kernel_rfl⟩
instance : Agg Tryd.prog 126 false := ⟨_, Tryd.underlying126, rfl⟩
instance : Inf Tryd.prog 126 (.nilFunc) 1 8 := ⟨by kernel_rfl⟩
instance : Agg Tryd.prog 129 false := ⟨_, Tryd.underlying129, rfl⟩
instance : Inf Tryd.prog 129 (.nilFunc) 1 8 := ⟨by kernel_rfl⟩
instance : Agg Tryd.prog 130 false := ⟨_, Tryd.underlying130, rfl⟩
instance : Inf Tryd.prog 130 (.nilFunc) 1 8 := ⟨by kernel_rfl⟩
instance : Agg Tryd.prog 131 false := ⟨_, Tryd.underlying131, rfl⟩
instance : Inf Tryd.prog 131 (.nilFunc) 1 8 := ⟨by kernel_rfl⟩
instance : Agg Tryd.prog 132 false := ⟨_, Tryd.underlying132, rfl⟩
instance : Inf Tryd.prog 132 (.nilFunc) 1 8 := ⟨by kernel_rfl⟩
instance : Agg Tryd.prog 134 false := ⟨_, Tryd.underlying134, rfl⟩
instance : Inf Tryd.prog 134 (.nilFunc) 1 8 := ⟨by kernel_rfl⟩
instance : Agg Tryd.prog 135 false := ⟨_, Tryd.underlying135, rfl⟩
instance : Inf Tryd.prog 135 (.nilFunc) 1 8 := ⟨by kernel_rfl⟩
instance : Agg Tryd.prog 137 false := ⟨_, Tryd.underlying137, rfl⟩
instance : Inf Tryd.prog 137 (.nilFunc) 1 8 := ⟨by kernel_rfl⟩
instance : Agg Tryd.prog 138 false := ⟨_, Tryd.underlying138, rfl⟩
instance : Inf Tryd.prog 138 (.nilFunc) 1 8 := ⟨by kernel_rfl⟩
instance : Agg Tryd.prog 139 false := ⟨_, Tryd.underlying139, rfl⟩
instance : Inf Tryd.prog 139 (.nilFunc) 1 8 := ⟨by kernel_rfl⟩
instance : Agg Tryd.prog 141 false := ⟨_, Tryd.underlying141, rfl⟩
instance : Inf Tryd.prog 141 (.nilFunc) 1 8 := ⟨by kernel_rfl⟩
instance : Agg Tryd.prog 144 false := ⟨_, Tryd.underlying144, rfl⟩
instance : Inf Tryd.prog 144 (.nilFunc) 1 8 := ⟨by kernel_rfl⟩
instance : Agg Tryd.prog 146 false := ⟨_, Tryd.underlying146, rfl⟩
instance : Inf Tryd.prog 146 (.nilFunc) 1 8 := ⟨by kernel_rfl⟩
instance : Agg Tryd.prog 147 false := ⟨_, Tryd.underlying147, rfl⟩
instance : Inf Tryd.prog 147 (.nilFunc) 1 8 := ⟨by kernel_rfl⟩
instance : Agg Tryd.prog 149 false := ⟨_, Tryd.underlying149, rfl⟩
instance : Inf Tryd.prog 149 (.nilFunc) 1 8 := ⟨by kernel_rfl⟩
instance : Agg Tryd.prog 152 false := ⟨_, Tryd.underlying152, rfl⟩
instance : Inf Tryd.prog 152 (.nilFunc) 1 8 := ⟨by kernel_rfl⟩
instance : Agg Tryd.prog 153 false := ⟨_, Tryd.underlying153, rfl⟩
instance : Inf Tryd.prog 153 (.nilFunc) 1 8 := ⟨by kernel_rfl⟩
instance : Agg Tryd.prog 155 false := ⟨_, Tryd.underlying155, rfl⟩
instance : Inf Tryd.prog 155 (.nilFunc) 1 8 := ⟨by kernel_rfl⟩
instance : Agg Tryd.prog 156 false := ⟨_, Tryd.underlying156, rfl⟩
instance : Inf Tryd.prog 156 (.nilFunc) 1 8 := ⟨by kernel_rfl⟩
instance : Agg Tryd.prog 158 false := ⟨_, Tryd.underlying158, rfl⟩
instance : Inf Tryd.prog 158 (.nilFunc) 1 8 := ⟨by kernel_rfl⟩
instance : Agg Tryd.prog 161 false := ⟨_, Tryd.underlying161, rfl⟩
instance : Inf Tryd.prog 161 (.nilFunc) 1 8 := ⟨by kernel_rfl⟩
instance : Agg Tryd.prog 162 false := ⟨_, Tryd.underlying162, rfl⟩
instance : Inf Tryd.prog 162 (.nilFunc) 1 8 := ⟨by kernel_rfl⟩
instance : Agg Tryd.prog 164 false := ⟨_, Tryd.underlying164, rfl⟩
instance : Inf Tryd.prog 164 (.nilFunc) 1 8 := ⟨by kernel_rfl⟩
instance : Agg Tryd.prog 166 false := ⟨_, Tryd.underlying166, rfl⟩
instance : Inf Tryd.prog 166 (.nilFunc) 1 8 := ⟨by kernel_rfl⟩
instance : Agg Tryd.prog 167 false := ⟨_, Tryd.underlying167, rfl⟩
instance : Inf Tryd.prog 167 (.nilFunc) 1 8 := ⟨by kernel_rfl⟩
instance : Agg Tryd.prog 168 false := ⟨_, Tryd.underlying168, rfl⟩
instance : Inf Tryd.prog 168 (.nilFunc) 1 8 := ⟨by kernel_rfl⟩
instance : Agg Tryd.prog 169 false := ⟨_, Tryd.underlying169, rfl⟩
instance : Inf Tryd.prog 169 (.nilFunc) 1 8 := ⟨by kernel_rfl⟩
instance : Agg Tryd.prog 170 false := ⟨_, Tryd.underlying170, rfl⟩
instance : Inf Tryd.prog 170 (.nilFunc) 1 8 := ⟨by kernel_rfl⟩
instance : Agg Tryd.prog 171 false := ⟨_, Tryd.underlying171, rfl⟩
instance : Inf Tryd.prog 171 (.nilFunc) 1 8 := ⟨by kernel_rfl⟩
instance : Agg Tryd.prog 172 false := ⟨_, Tryd.underlying172, rfl⟩
instance : Inf Tryd.prog 172 (.nilFunc) 1 8 := ⟨by kernel_rfl⟩
instance : Agg Tryd.prog 173 false := ⟨_, Tryd.underlying173, rfl⟩
instance : Inf Tryd.prog 173 (.nilFunc) 1 8 := ⟨by kernel_rfl⟩
instance : Agg Tryd.prog 175 false := ⟨_, Tryd.underlying175, rfl⟩
instance : Inf Tryd.prog 175 (.nilFunc) 1 8 := ⟨by kernel_rfl⟩
instance : Agg Tryd.prog 176 false := ⟨_, Tryd.underlying176, rfl⟩
instance : Inf Tryd.prog 176 (.nilFunc) 1 8 := ⟨by kernel_rfl⟩
instance : Agg Tryd.prog 177 false := ⟨_, Tryd.underlying177, rfl⟩
instance : Inf Tryd.prog 177 (.nilFunc) 1 8 := ⟨by kernel_rfl⟩
instance : Agg Tryd.prog 182 false := ⟨_, Tryd.underlying182, rfl⟩
instance : Inf Tryd.prog 182 (.nilFunc) 1 8 := ⟨by kernel_rfl⟩
instance : Agg Tryd.prog 184 false := ⟨_, Tryd.underlying184, rfl⟩
instance : Inf Tryd.prog 184 (.nilFunc) 1 8 := ⟨by kernel_rfl⟩
instance : Agg Tryd.prog 185 false := ⟨_, Tryd.underlying185, rfl⟩
instance : Inf Tryd.prog 185 (.nilFunc) 1 8 := ⟨by kernel_rfl⟩
instance : Agg Tryd.prog 186 false := ⟨_, Tryd.underlying186, rfl⟩
instance : Inf Tryd.prog 186 (.nilFunc) 1 8 := ⟨by kernel_rfl⟩
instance : Agg Tryd.prog 187 false := ⟨_, Tryd.underlying187, rfl⟩
instance : Inf Tryd.prog 187 (.nilFunc) 1 8 := ⟨by kernel_rfl⟩
instance : Agg Tryd.prog 188 false := ⟨_, Tryd.underlying188, rfl⟩
instance : Inf Tryd.prog 188 (.nilFunc) 1 8 := ⟨by kernel_rfl⟩
instance : Agg Tryd.prog 190 false := ⟨_, Tryd.underlying190, rfl⟩
instance : Inf Tryd.prog 190 (.nilFunc) 1 8 := ⟨by kernel_rfl⟩
instance : Agg Tryd.prog 191 false := ⟨_, Tryd.underlying191, rfl⟩
instance : Inf Tryd.prog 191 (.nilFunc) 1 8 := ⟨by kernel_rfl⟩
instance : Agg Tryd.prog 197 false := ⟨_, Tryd.underlying197, rfl⟩
instance : Inf Tryd.prog 197 (.nilFunc) 1 8 := ⟨by kernel_rfl⟩
instance : Agg Tryd.prog 205 false := ⟨_, Tryd.underlying205, rfl⟩
instance : Inf Tryd.prog 205 (.nilFunc) 1 8 := ⟨by kernel_rfl⟩
instance : Agg Tryd.prog 208 false := ⟨_, Tryd.underlying208, rfl⟩
instance : Inf Tryd.prog 208 (.nilFunc) 1 8 := ⟨by kernel_rfl⟩
instance : Agg Tryd.prog 209 false := ⟨_, Tryd.underlying209, rfl⟩
instance : Inf Tryd.prog 209 (.nilFunc) 1 8 := ⟨by kernel_rfl⟩
instance : Agg Tryd.prog 210 false := ⟨_, Tryd.underlying210, rfl⟩
instance : Inf Tryd.prog 210 (.nilFunc) 1 8 := ⟨by kernel_rfl⟩
instance : Agg Tryd.prog 211 false := ⟨_, Tryd.underlying211, rfl⟩
instance : Inf Tryd.prog 211 (.nilFunc) 1 8 := ⟨by kernel_rfl⟩
instance : Agg Tryd.prog 218 false := ⟨_, Tryd.underlying218, rfl⟩
instance : Inf Tryd.prog 218 (.nilFunc) 1 8 := ⟨by kernel_rfl⟩
instance : Agg Tryd.prog 224 false := ⟨_, Tryd.underlying224, rfl⟩
instance : Inf Tryd.prog 224 (.nilFunc) 1 8 := ⟨by kernel_rfl⟩
instance : Agg Tryd.prog 227 false := ⟨_, Tryd.underlying227, rfl⟩
instance : Inf Tryd.prog 227 (.nilFunc) 1 8 := ⟨by kernel_rfl⟩
end Go.Proofs.YthgbpgjpnaanlaaDoor

