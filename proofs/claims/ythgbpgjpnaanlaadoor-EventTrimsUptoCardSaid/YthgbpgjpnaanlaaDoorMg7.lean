/-
  Our texts SvEvZ, SvEvQ, SvEvR, SvEvS, SvGen, SvEvU, SvEvV, SvEcA, SvEd, SvJn, SvGb, joined.
-/
import Derived.Test.YthgbpgjpnaanlaaDoorMg6
/-
  sieveref18: At.
-/
set_option linter.unusedSimpArgs false
set_option linter.unusedVariables false
set_option linter.unnecessarySimpa false
namespace Go.Proofs.YthgbpgjpnaanlaaDoor
open Go Go.Sv Go.RowKit

theorem greater_ok (a b : Int) (w : World) : PureC Tryd.prog 47 #[int a, int b] w (int (max a b)) := by
  refine enter (l := [int a, int b]) Tryd.func47 rfl Tryd.ntmps47 (by kernel_rfl) rfl ?_
  refine sgo ?_
  (show WC _ _ _ _ _ _ _; first | refine WC_dec rfl (fun hc => ?_) (fun hc => ?_) | refine WC_cond rfl (fun hc => ?_) (fun hc => ?_))
  · refine sgo ?_
    (first | refine fp1 (.inl rfl) rfl rfl ?_ | refine fp2 (.inl rfl) rfl rfl rfl ?_ | refine fp3 (.inl rfl) rfl rfl rfl rfl ?_ | refine fp0 (.inr rfl) rfl ?_ | refine fp0 (.inl rfl) rfl ?_ | refine fp1 (.inr rfl) rfl rfl ?_); refine ⟨?_, by (first | exact Frm.refl _ | assumption | exact Go.Sv.Sep.frm (by assumption) | (refine Frm.trans ?_ (by assumption); first | exact Frm.refl _ | assumption))⟩; (try simp only [realB, rv_true, Nat.reduceBEq, cond_true, cond_false, entG, real_lif, updGL])
    rw [Int.max_eq_left (by omega)]
  · refine sgo ?_
    (first | refine fp1 (.inl rfl) rfl rfl ?_ | refine fp2 (.inl rfl) rfl rfl rfl ?_ | refine fp3 (.inl rfl) rfl rfl rfl rfl ?_ | refine fp0 (.inr rfl) rfl ?_ | refine fp0 (.inl rfl) rfl ?_ | refine fp1 (.inr rfl) rfl rfl ?_); refine ⟨?_, by (first | exact Frm.refl _ | assumption | exact Go.Sv.Sep.frm (by assumption) | (refine Frm.trans ?_ (by assumption); first | exact Frm.refl _ | assumption))⟩; (try simp only [realB, rv_true, Nat.reduceBEq, cond_true, cond_false, entG, real_lif, updGL])
    rw [Int.max_eq_right (by omega)]
def Lk.cells (k : Lk) (q : Option Addr) (c : Nat) : List Value := [.slice q k.stack.length c, int k.most, int k.at_, int k.err, int k.good]

theorem lk_next {k : Lk} {e : Ev} (h0 : k.err = 0) (he : evR e = true) : lkStep k e =
    if e.kind = 1 then ⟨k.stack ++ [e.name], max k.most (k.stack.length + 1), 0, 0, k.good + 1⟩
      else if e.kind = 3 then ⟨k.stack, max k.most (k.stack.length + 1), 0, 0, k.good + 1⟩
      else if e.kind = 2 then (if k.stack.getLast? = some e.name then ⟨k.stack.dropLast, k.most, 0, 0, k.good + 1⟩ else { k with at_ := k.good, err := 181 })
      else ⟨k.stack, k.most, 0, 0, k.good + 1⟩ := by
  rw [lkStep, if_pos h0, if_pos he]
set_option maxHeartbeats 2000000 in
theorem at_ok (ms : List EvM) (p : Option Addr) (c : Nat) (hn : ms.length ≤ 1048576) (hs : ∀ m ∈ ms, m.e.small) (w0 w : World) (cs : List Plot) (hS0 : Sep w0 w cs) (hE : Evs w p ms) :
    CallsR Tryd.prog 19 #[.slice p ms.length c] w fun v w' => ∃ q cc, v = .agg ⟨(lkR (evs ms)).cells q cc⟩ ∧ Frm w w' ∧ Sep w0 w' (pRow 1 q (lkR (evs ms)).stack.length cc (strs (lkR (evs ms)).stack) :: cs) := by
  have hS := Sep.start w
  refine enter (l := [.slice p ms.length c]) Tryd.func19 rfl Tryd.ntmps19 (by kernel_rfl) rfl ?_
  refine sgo ?_
  refine salloc hS fun b2 w2 hS => ?_
  refine sgo ?_
  refine salloc hS fun b3 w3 hS => ?_
  replace hS : Sep w w3 [pOwn b3 [.slice none 0 0, int 0, int 0, int 0, int 0], pOwn b2 [.slice none 0 0, int 0, int 0, int 0, int 0]] := hS
  replace hS := (hS.push (c := pRow 1 none 0 0 (strs [])) (Frm.refl w3) (Row.nil w3 1) (by simp [pRow, rb]))
  refine sgo ?_
  refine wcloop (X := Nat × Option Addr × Nat) (fun x => [(0, .slice p ms.length c), (2, ptrAt (pb b2) 0), (3, ptrAt (pb b3) 0), (7, .slice p ms.length c), (8, int ms.length), (9, int x.1)])
    (fun x wr => x.1 ≤ ms.length ∧ (lkI ms x.1).err = 0 ∧ Sep w wr [pRow 1 x.2.1 (lkI ms x.1).stack.length x.2.2 (strs (lkI ms x.1).stack), pOwn b3 [.slice x.2.1 (lkI ms x.1).stack.length x.2.2, int (lkI ms x.1).most, int 0, int 0, int 0], pOwn b2 [.slice none 0 0, int 0, int 0, int 0, int 0]])
    (fun x => ms.length - x.1) (0, none, 0) ⟨rfl, rfl, rfl, rfl, rfl, rfl, trivial⟩ ⟨Nat.zero_le _, rfl, hS⟩ ?_
  clear hS
  rintro ⟨i, q, cc⟩ wr ρ ⟨hil, herr, hS⟩
  dsimp only at *
  have hok := lkI_ok hil herr
  refine sgo ?_
  (show WC _ _ _ _ _ _ _; first | refine WC_dec rfl (fun hc => ?_) (fun hc => ?_) | refine WC_cond rfl (fun hc => ?_) (fun hc => ?_))
  · have hlt : i < ms.length := by omega
    have hx : ms[i]? = some ms[i] := List.getElem?_eq_getElem hlt
    have hmem : ms[i] ∈ ms := List.getElem_mem hlt
    have hseg := fm_seg EvM.len ms hx
    have hfl := fm_len EvM.len ms
    have hat := hE.each _ hmem
    have hsm := hs _ hmem
    have hps : ∃ a, p = some a := hE.im.sg.some (by omega)
    have hIm := hE.im
    have hsuc := lkI_succ hx
    generalize ms[i] = m at *
    generalize hk : lkI ms i = k at *
    clear hc
    obtain ⟨⟨kd, nm, tx, es⟩, mp, mc⟩ := m
    dsimp only at hsuc hat
    refine sgo ?_
    rw [hseg]
    refine salloc hS fun b5 w5 hS => ?_
    refine sgo ?_
    refine ssta (vs := [int kd, str nm, str tx, .slice mp es.length mc]) hS 0 fun w6 hS => ?_
    replace hS : Sep w w6 [pOwn b5 [int kd, str nm, str tx, .slice mp es.length mc], pRow 1 q k.stack.length cc (strs k.stack), pOwn b3 [.slice q k.stack.length cc, int k.most, int 0, int 0, int 0], pOwn b2 [.slice none 0 0, int 0, int 0, int 0, int 0]] := hS
    refine sgo ?_
    refine wlpure (refEvCheck_ok ⟨kd, nm, tx, es⟩ mp mc hsm w6 (hat.sep hS)) fun w7 hf7 => ?_
    replace hS := hS.grow hf7
    cases he : evR ⟨kd, nm, tx, es⟩ with
    | false =>
      have hst1 : lkStep k ⟨kd, nm, tx, es⟩ = { k with at_ := k.good, err := 180 } := by simp [lkStep, herr, he]
      have hend := lkI_stop (ms := ms) (i := i + 1) (by rw [hsuc, hst1]; exact (by decide : (180 : Int) ≠ 0))
      rw [hsuc, hst1] at hend
      refine sgo ?_
      refine wlbuild ?_
      refine ssta (vs := [.slice q k.stack.length cc, int k.most, int i, int 180, int i]) hS 3 fun w8 hS => ?_
      refine sgo ?_
      refine fpc (l := [.slice q k.stack.length cc, int k.most, int i, int 180, int i]) (.inl rfl) rfl rfl rfl (hS.own 3 rfl) ⟨q, cc, ?_, hS.frm, ?_⟩
      · rw [hend]; simp only [Lk.cells, hok.2.1]
      · rw [hend]; exact hS0.seq (ds := [_]) (hS.tail.sub (List.Sublist.cons_cons _ (List.nil_sublist _)))
    | true =>
      have hst1 := lk_next (e := ⟨kd, nm, tx, es⟩) herr he
      dsimp only at hst1
      refine sgo ?_
      (show WC _ _ _ _ _ _ _; first | refine WC_dec rfl (fun hc => ?_) (fun hc => ?_) | refine WC_cond rfl (fun hc => ?_) (fun hc => ?_))
      · replace hc : kd = 1 := hc
        subst hc
        rw [if_pos rfl] at hst1
        rw [hst1] at hsuc
        refine sgo ?_
        refine sb1s hS fun b9 w9 hS => ?_
        refine sgo ?_
        refine sapp hS 2 (hS.own 0 rfl).sg fun q' c' w10 hS => ?_
        rw [strs_snoc] at hS
        have hnl : k.stack.length + 1 = (k.stack ++ [nm]).length := by simp
        rw [hnl] at hS ⊢
        refine sgo ?_
        refine sst_slice hS 3 fun w11 hS => ?_
        refine sgo ?_
        refine wlpure (greater_ok _ _ _) fun w12 hf12 => ?_
        replace hS := hS.grow hf12
        have e : max (k.most : Int) ((k.stack ++ [nm]).length : Int) = ((max k.most (k.stack.length + 1) : Nat) : Int) := by rw [← hnl]; omega
        rw [e]
        refine sgo ?_
        refine sst_int hS 3 fun w13 hS => ?_
        refine sgo ?_
        refine ⟨(i + 1, q', c'), ⟨rfl, rfl, rfl, rfl, rfl, rfl, trivial⟩, ⟨hlt, by dsimp only; rw [hsuc], ?_⟩, (by (try dsimp only); omega)⟩
        dsimp only
        rw [hsuc]
        exact hS.tail.tail
      · replace hc : ¬ kd = 1 := hc
        have hk1 := hc
        clear hc
        rw [if_neg hk1] at hst1
        refine sgo ?_
        (show WC _ _ _ _ _ _ _; first | refine WC_dec rfl (fun hc => ?_) (fun hc => ?_) | refine WC_cond rfl (fun hc => ?_) (fun hc => ?_))
        · replace hc : kd = 3 := hc
          subst hc
          rw [if_pos rfl] at hst1
          rw [hst1] at hsuc
          refine sgo ?_
          refine wlpure (greater_ok _ _ _) fun w12 hf12 => ?_
          replace hS := hS.grow hf12
          have e : max (k.most : Int) ((k.stack.length : Int) + 1) = ((max k.most (k.stack.length + 1) : Nat) : Int) := by omega
          rw [e]
          refine sgo ?_
          refine sst_int hS 2 fun w13 hS => ?_
          refine sgo ?_
          refine ⟨(i + 1, q, cc), ⟨rfl, rfl, rfl, rfl, rfl, rfl, trivial⟩, ⟨hlt, by dsimp only; rw [hsuc], ?_⟩, (by (try dsimp only); omega)⟩
          dsimp only
          rw [hsuc]
          exact hS.tail
        · replace hc : ¬ kd = 3 := hc
          have hk3 := hc
          clear hc
          rw [if_neg hk3] at hst1
          refine sgo ?_
          (show WC _ _ _ _ _ _ _; first | refine WC_dec rfl (fun hc => ?_) (fun hc => ?_) | refine WC_cond rfl (fun hc => ?_) (fun hc => ?_))
          · replace hc : kd = 2 := hc
            subst hc
            rw [if_pos rfl] at hst1
            refine sgo ?_
            by_cases he0 : k.stack = []
            · have hst2 : lkStep k ⟨2, nm, tx, es⟩ = { k with at_ := k.good, err := 181 } := by rw [hst1, if_neg (by rw [he0]; simp)]
              have hend := lkI_stop (ms := ms) (i := i + 1) (by rw [hsuc, hst2]; exact (by decide : (181 : Int) ≠ 0))
              rw [hsuc, hst2] at hend
              have hl0 : k.stack.length = 0 := by rw [he0]; rfl
              refine wcdraw ?_
              refine qgo ?_
              refine qlg (v := .nilIface) ?_ rfl rfl (fun hh => absurd hh (by simp [hl0])) 
              refine qlg (v := str []) ?_ rfl rfl (fun hh => absurd hh (by simp [hl0])) 
              refine qgo ?_
              refine QL_nil ?_
              intro w8 hf8
              replace hS := hS.grow hf8
              refine sgo ?_
              refine wcyes ?_ (ht := by simp [pkb_or, hl0])
              refine sgo ?_
              refine wlbuild ?_
              refine ssta (vs := [.slice q k.stack.length cc, int k.most, int i, int 181, int i]) hS 3 fun w8 hS => ?_
              refine sgo ?_
              refine fpc (l := [.slice q k.stack.length cc, int k.most, int i, int 181, int i]) (.inl rfl) rfl rfl rfl (hS.own 3 rfl) ⟨q, cc, ?_, hS.frm, ?_⟩
              · rw [hend]; simp only [Lk.cells, hok.2.1]
              · rw [hend]; exact hS0.seq (ds := [_]) (hS.tail.sub (List.Sublist.cons_cons _ (List.nil_sublist _)))
            · have hpos : 0 < k.stack.length := List.length_pos_iff.2 he0
              have hq : ∃ a, q = some a := (hS.row 1 rfl).sg.some (by rw [strs_len]; exact hpos)
              have hle := (hS.row 1 rfl).le_cap
              have hg : (strs k.stack)[((k.stack.length : Int) - 1).toNat]? = some (str (k.stack.getLast?.getD [])) := by
                rw [show ((k.stack.length : Int) - 1).toNat = k.stack.length - 1 by omega, strs, List.getElem?_map, List.getLast?_eq_getElem?, List.getElem?_eq_getElem (by omega)]
                rfl
              refine wcdraw ?_
              refine qgo ?_
              refine QL_nil ?_
              intro w8 hf8
              replace hS := hS.grow hf8
              have hB2 : pkb (decide ((k.stack.length : Int) - 1 < 0)) true (decide (k.stack.getLast?.getD [] ≠ nm)) = !decide (k.stack.getLast? = some nm) := by
                have h1 : decide ((k.stack.length : Int) - 1 < 0) = false := decide_eq_false (by omega)
                rw [h1]
                cases hl : k.stack.getLast? with
                | none => exact absurd (List.getLast?_eq_none_iff.1 hl) he0
                | some z => simp [pkb]
              refine sgo ?_
              by_cases hl : k.stack.getLast? = some nm
              · rw [if_pos hl] at hst1
                rw [hst1] at hsuc
                refine wcno ?_ (ht := by rw [hB2]; simp [hl])
                clear hB2 hg
                refine sgo ?_
                refine sb0 hS fun b9 w9 hS => ?_
                refine sgo ?_
                have hdl : ((k.stack.length : Int) - 1).toNat = k.stack.dropLast.length := by simp
                have hrt := (hS.row 2 rfl).take (j := k.stack.dropLast.length) (by simp)
                rw [Nat.mul_one, show (strs k.stack).take k.stack.dropLast.length = strs k.stack.dropLast from by rw [strs, strs, ← List.map_take, List.length_dropLast, List.dropLast_eq_take]] at hrt
                rw [hdl]
                refine sapp hS 0 hrt.sg (fun q' c' w10 hS => ?_) (h1 := strs_one _) (hl := by rw [strs_len, Nat.mul_one]) (hb := by simp; omega)
                rw [List.nil_append, Nat.zero_add] at hS
                rw [Nat.zero_add]
                refine sgo ?_
                refine sst_slice hS 3 fun w11 hS => ?_
                refine sgo ?_
                refine ⟨(i + 1, q', c'), ⟨rfl, rfl, rfl, rfl, rfl, rfl, trivial⟩, ⟨hlt, by dsimp only; rw [hsuc], ?_⟩, (by (try dsimp only); omega)⟩
                dsimp only
                rw [hsuc]
                have h2 := hS.drop 1 rfl
                have h3 := h2.drop 1 rfl
                simp only [Nat.zero_add] at h3
                exact h3
              · rw [if_neg hl] at hst1
                have hend := lkI_stop (ms := ms) (i := i + 1) (by rw [hsuc, hst1]; exact (by decide : (181 : Int) ≠ 0))
                rw [hsuc, hst1] at hend
                refine wcyes ?_ (ht := by rw [hB2]; simp [hl])
                refine sgo ?_
                refine wlbuild ?_
                refine ssta (vs := [.slice q k.stack.length cc, int k.most, int i, int 181, int i]) hS 3 fun w8 hS => ?_
                refine sgo ?_
                refine fpc (l := [.slice q k.stack.length cc, int k.most, int i, int 181, int i]) (.inl rfl) rfl rfl rfl (hS.own 3 rfl) ⟨q, cc, ?_, hS.frm, ?_⟩
                · rw [hend]; simp only [Lk.cells, hok.2.1]
                · rw [hend]; exact hS0.seq (ds := [_]) (hS.tail.sub (List.Sublist.cons_cons _ (List.nil_sublist _)))
          · replace hc : ¬ kd = 2 := hc
            rw [if_neg hc] at hst1
            rw [hst1] at hsuc
            refine sgo ?_
            refine ⟨(i + 1, q, cc), ⟨rfl, rfl, rfl, rfl, rfl, rfl, trivial⟩, ⟨hlt, by dsimp only; rw [hsuc], ?_⟩, (by (try dsimp only); omega)⟩
            dsimp only
            rw [hsuc]
            exact hS.tail
  · obtain rfl : i = ms.length := by omega
    rw [lkI_all] at *
    clear hc
    refine sgo ?_
    refine sst_int hS 1 fun w8 hS => ?_
    refine sgo ?_
    refine ssta (vs := [.slice q (lkR (evs ms)).stack.length cc, int (lkR (evs ms)).most, int 0, int 0, int ms.length]) hS 2 fun w9 hS => ?_
    refine sgo ?_
    refine fpc (l := [.slice q (lkR (evs ms)).stack.length cc, int (lkR (evs ms)).most, int 0, int 0, int ms.length]) (.inl rfl) rfl rfl rfl (hS.own 2 rfl) ⟨q, cc, ?_, hS.frm, ?_⟩
    · simp only [Lk.cells, hok.2.1, hok.1, herr]; rfl
    · exact hS0.seq (ds := [_]) (hS.sub (List.Sublist.cons_cons _ (List.nil_sublist _)))
end Go.Proofs.YthgbpgjpnaanlaaDoor

/-
  sievelaw18: EventNests.
-/
set_option linter.unusedSimpArgs false
set_option linter.unusedVariables false
set_option linter.unnecessarySimpa false
namespace Go.Sv
open Go Go.RowKit
/-- a guarded call, whose guard is known to say yes -/
theorem wlcallgt {P : Program} {n : Nat} {ds : Ctx} {ops : Array Oper} {Q : Exit → Ctx → Env → World → Prop} {rest : List Oper} {σ : GE} {w : World} {d : Nat} {ty : TypeId} {pos : String} {af : Array Edge} {j dj : Nat} {want b c : Bool} {f : FuncId} [hf : Fnc P f] {args : List Operand} {ats : Array TypeId} {vals : List Value} {R : Value → World → Prop}
    (hc : CallsR P f vals.toArray w R) (h : ∀ v w', R v w' → WL P n ds ops Q rest (real (updG σ d ⟨v, true⟩)) w') (hgt : (b && (c == want)) = true)
    (hj : (ops[j]?).bind (·.dst) = some dj := by rfl) (hσ : σ dj = ⟨.bool c, b⟩ := by rfl)
    (ha : (b && (c == want)) = true → args.map (evl (real σ)) = vals := by
    intro hgd
    first
    | exact Go.Sv.am1 (evG hgd)
    | exact Go.Sv.am2 (evG hgd) (evG hgd)
    | exact Go.Sv.am3 (evG hgd) (evG hgd) (evG hgd)) :
    WL P n ds ops Q (⟨some d, .call ⟨.value (.func f), args.toArray, ats⟩, ty, pos, af, some (j, want)⟩ :: rest) (real σ) w := by
  have hw := wanted_real (ops := ops) (o := ⟨some d, .call ⟨.value (.func f), args.toArray, ats⟩, ty, pos, af, some (j, want)⟩) rfl hj hσ
  rw [hgt] at hw
  refine WL_call_want (R := R) hw (by rw [← ha hgt] at hc; simpa using hc) fun v w' hr => ?_
  have := h v w' hr
  rw [← real_upd] at this
  exact this
end Go.Sv
namespace Go.Proofs.YthgbpgjpnaanlaaDoor
open Go Go.Sv Go.RowKit

theorem closeM_evs (l : List (List UInt8)) : evs (l.map closeM) = l.map closeE := by simp [evs, closeM, Function.comp_def]
theorem closeM_small {l : List (List UInt8)} (h : ∀ n ∈ l, n.length ≤ 1048576) : ∀ m ∈ l.map closeM, m.e.small := by
  intro m hm
  obtain ⟨n, hn, rfl⟩ := List.mem_map.1 hm
  exact ⟨h n hn, by simp [closeM, closeE], by simp [closeM, closeE], by simp [closeM, closeE]⟩
theorem closeM_Evs {w : World} {p : Option Addr} {l : List (List UInt8)} (h : Im [] w p ((l.map closeM).flatMap EvM.cells)) : Evs w p (l.map closeM) := ⟨h, fun m hm => by
  obtain ⟨n, hn, rfl⟩ := List.mem_map.1 hm
  exact Im.nil _ _ _⟩
theorem stack_small (l : List Ev) (h : ∀ e ∈ l, e.name.length ≤ 1048576) : ∀ n ∈ (lkR l).stack, n.length ≤ 1048576 := by
  have key : ∀ (l : List Ev) (k : Lk), (∀ e ∈ l, e.name.length ≤ 1048576) → (∀ n ∈ k.stack, n.length ≤ 1048576) → ∀ n ∈ (l.foldl lkStep k).stack, n.length ≤ 1048576 := by
    intro l
    induction l with
    | nil => intro k _ h; exact h
    | cons e l ih =>
      intro k h1 h2
      rw [List.foldl_cons]
      refine ih _ (fun x hx => h1 x (List.mem_cons_of_mem _ hx)) ?_
      have he := h1 e List.mem_cons_self
      unfold lkStep
      split
      · split
        · split
          · intro n hn
            rcases List.mem_append.1 hn with hn | hn
            · exact h2 n hn
            · rw [List.mem_singleton.1 hn]; exact he
          · split
            · exact h2
            · split
              · split
                · exact fun n hn => h2 n (List.dropLast_subset _ hn)
                · exact h2
              · exact h2
        · exact h2
      · exact h2
  exact key l lk0 h (by simp [lk0])
def depthS (k : Lk) : Nat := if k.err = 0 then k.most else 0
theorem depth_ok2 (ms : List EvM) (p : Option Addr) (c : Nat) (hn : ms.length ≤ 1048576) (hs : ∀ m ∈ ms, m.e.small) (w : World) (hA : Asc w) (hE : Evs w p ms) :
    PureC Tryd.prog 17 #[.slice p ms.length c] w (.tuple #[int (depthS (lkR (evs ms))), int (lkR (evs ms)).err]) := by
  have h := depth_ok ms p c hn hs w hA hE
  unfold depthS
  by_cases he : (lkR (evs ms)).err = 0
  · rw [if_pos he] at h ⊢
    rw [he]; exact h
  · rw [if_neg he] at h ⊢
    exact h
set_option maxHeartbeats 4000000 in
theorem eventNests_ok (ms : List EvM) (p : Option Addr) (c : Nat) (hw : evw ms ≤ 1048576) (w : World) (hA : Asc w) (hE : Evs w p ms) :
    PureC Tryd.prog 4 #[.slice p ms.length c] w (.bool true) := by
  have hn : ms.length ≤ 1048576 := by
    have := sum_len (fun m : EvM => m.e.wt) ms (by intro m _; show 1 ≤ Ev.wt m.e; unfold Ev.wt; omega)
    unfold evw at hw; omega
  have hs : ∀ m ∈ ms, m.e.small := fun m hm => Ev.small_of (Nat.le_trans (sum_mem (fun m : EvM => m.e.wt) ms hm) hw)
  have hS := Sep.start w
  have hss : ∀ n ∈ (lkR (evs ms)).stack, n.length ≤ 1048576 := stack_small _ (by
    intro e he
    obtain ⟨m, hm, rfl⟩ := List.mem_map.1 he
    exact (hs m hm).name)
  refine enter (l := [.slice p ms.length c]) Tryd.func4 rfl Tryd.ntmps4 (by kernel_rfl) rfl ?_
  refine sgo ?_
  refine wlcall (evOwn_ok ms p c hn hs w w [] hS hE) ?_
  rintro _ w1 ⟨q, cc, ns, rfl, hev, -, hS⟩
  have hnl : ns.length = ms.length := by rw [← evs_len, hev, evs_len]
  have hns : ∀ m ∈ ns, m.e.small := fun m hm => by
    have : m.e ∈ evs ms := by rw [← hev]; exact List.mem_map_of_mem hm
    obtain ⟨m', hm', e⟩ := List.mem_map.1 this
    rw [← e]; exact hs m' hm'
  have hb := lk_bound (evs ms)
  have hol := openS_len ns
  rw [evs_len] at hb
  rw [← hev] at hb hss
  refine sgo ?_
  refine wlpure (nested_ok ns q cc (by omega) hns w1 (hA.frm hS.frm) (Sep.evs hS 0 1 rfl rfl)) fun w2 hf2 => ?_
  replace hS := hS.grow hf2
  refine sgo ?_
  refine wlcall (open_ok2 ns q cc (by omega) hns w w2 _ hS (hA.frm hS.frm) (Sep.evs hS 0 1 rfl rfl)) ?_
  rintro _ w3 ⟨q1, c1, rfl, -, hS⟩
  refine sgo ?_
  refine wlcall (open_ok2 ns q cc (by omega) hns w w3 _ hS (hA.frm hS.frm) (Sep.evs hS 1 2 rfl rfl)) ?_
  rintro _ w4 ⟨q2, c2, rfl, -, hS⟩
  refine sgo ?_
  refine wlpure (depth_ok2 ns q cc (by omega) hns w4 (hA.frm hS.frm) (Sep.evs hS 2 3 rfl rfl)) fun w5 hf5 => ?_
  replace hS := hS.grow hf5
  refine sgo ?_
  refine wlcall (close_ok ns q cc (by omega) hns w w5 _ hS (hA.frm hS.frm) (Sep.evs hS 2 3 rfl rfl)) ?_
  rintro _ w6 ⟨q3, c3, rfl, -, hS⟩
  refine sgo ?_
  refine wlcall (at_ok ms p c hn hs w w6 _ hS (hE.frm hS.frm)) ?_
  rintro _ w7 ⟨q4, c4, rfl, -, hS⟩
  rw [← hev] at hS ⊢
  have hEn := Sep.evs hS 4 5 rfl rfl
  have hC := hS.im 1 rfl
  have hO1 := hS.im 3 rfl
  have hO2 := hS.im 2 rfl
  have hK := hS.im 0 rfl
  clear hC hO1 hO2 hK hEn
  generalize hk : lkR (evs ns) = k at *
  refine sgo ?_
  refine salloc hS fun b14 w8 hS => ?_
  refine sgo ?_
  refine ssta (vs := [.slice q4 k.stack.length c4, int k.most, int k.at_, int k.err, int k.good]) hS 0 fun w9 hS => ?_
  replace hS : Sep w w9 [pOwn b14 [.slice q4 k.stack.length c4, int k.most, int k.at_, int k.err, int k.good], pRow 1 q4 k.stack.length c4 (strs k.stack), pRow 4 q3 (openS k).length c3 (((openS k).reverse.map closeM).flatMap EvM.cells),
    pRow 1 q2 (openS k).length c2 (strs (openS k)), pRow 1 q1 (openS k).length c1 (strs (openS k)), pRow 4 q ns.length cc (ns.flatMap EvM.cells), pMany (ns.map EvM.row)] := hS
  refine sgo ?_
  refine wcdraw ?_
  refine qgo ?_
  refine qlcallgp (vals := [int k.err]) (v := int k.err) (fun hg w' hw' => num18_ok _ w') ?_
  refine qgo ?_
  refine qlcallgp (vals := [int k.err]) (v := int k.err) (fun hg w' hw' => num18_ok _ w') ?_
  refine qgo ?_
  refine qlcallgp (vals := [int k.err]) (v := int k.err) (fun hg w' hw' => num18_ok _ w') ?_
  refine qgo ?_
  refine qlcallgp (vals := [int k.err]) (v := int k.err) (fun hg w' hw' => num18_ok _ w') ?_
  refine qgo ?_
  refine qlcallgp (vals := [.slice q ns.length cc, .slice p ms.length c]) (v := .bool (decide (evs ns = evs ms))) (fun hg w' hw' => evEqual_ok ns ms q p cc c (by omega) (by omega) hns hs w' (Sep.evs (hS.grow hw') 5 6 rfl rfl) (hE.frm (hS.grow hw').frm)) ?_
  refine qgo ?_
  refine QL_nil ?_
  intro w10 hf10
  replace hS := hS.grow hf10
  rw [decide_eq_true hev]
  refine sgo ?_
  refine wcno ?_ (ht := by simp [pkb_or])
  refine sgo ?_
  by_cases he : k.err = 0
  · refine wcno ?_ (ht := by simpa using he)
    have ho : openS k = k.stack := if_pos he
    have hd : depthS k = k.most := if_pos he
    rw [ho] at hS ⊢
    rw [hd]
    refine sgo ?_
    refine wlpure (sameNames_ok k.stack k.stack q1 q4 c1 c4 (by omega) (by omega) w10 (hS.im 4 rfl) (hS.im 1 rfl)) fun w11 hf11 => ?_
    replace hS := hS.grow hf11
    rw [decide_eq_true rfl]
    refine sgo ?_
    refine wlcallgt (vals := [.slice q4 k.stack.length c4]) (ends_ok k.stack q4 c4 (by omega) w w11 _ hS (hS.im 1 rfl)) (fun v5 w12 hR => ?_) ?_
    rotate_left
    · simp [pkb]
    obtain ⟨q5, c5, rfl, -, hS⟩ := hR
    have hEq := fun w' h1 h2 => evEqual_ok (k.stack.reverse.map closeM) (k.stack.reverse.map closeM) q3 q5 c3 c5 (by simp; omega) (by simp; omega) (closeM_small fun n hn => hss n (List.mem_reverse.1 hn)) (closeM_small fun n hn => hss n (List.mem_reverse.1 hn)) w' (closeM_Evs h1) (closeM_Evs h2)
    simp only [List.length_map, List.length_reverse] at hEq
    refine sgo ?_
    refine wlcallgp (vals := [.slice q3 k.stack.length c3, .slice q5 k.stack.length c5]) (fun _ => hEq w12 (hS.im 3 rfl) (hS.im 0 rfl)) fun w13 hf13 => ?_
    replace hS := hS.grow hf13
    refine sgo ?_
    refine wcno ?_ (ht := by simp [pkb])
    refine sgo ?_
    refine wcloop (X := Nat × List Value) (fun x => [(3, .slice q ns.length cc), (6, .slice q1 k.stack.length c1), (8, .slice q2 k.stack.length c2), (14, ptrAt (pb b14) 0), (121, int k.stack.length), (122, int x.1)])
      (fun x wr => x.1 ≤ k.stack.length ∧ x.2.length = k.stack.length ∧ Sep w wr [pRow 1 q1 k.stack.length c1 x.2, pOwn b14 [.slice q4 k.stack.length c4, int k.most, int k.at_, int k.err, int k.good], pRow 1 q4 k.stack.length c4 (strs k.stack), pRow 1 q2 k.stack.length c2 (strs k.stack)])
      (fun x => k.stack.length - x.1) (0, strs k.stack) ⟨rfl, rfl, rfl, rfl, rfl, rfl, trivial⟩ ⟨Nat.zero_le _, strs_len _, ?_⟩ ?_
    · have h1 := hS.front 5 rfl
      have h2 := (((h1.drop 7 rfl).drop 6 rfl).drop 4 rfl).drop 1 rfl
      exact h2
    clear hS
    rintro ⟨i, xs⟩ wr ρ ⟨hil, hxl, hS⟩
    dsimp only at *
    refine sgo ?_
    (show WC _ _ _ _ _ _ _; first | refine WC_dec rfl (fun hc => ?_) (fun hc => ?_) | refine WC_cond rfl (fun hc => ?_) (fun hc => ?_))
    · have hlt : i < k.stack.length := by omega
      have hp : ∃ a, q1 = some a := (hS.row 0 rfl).sg.some (by omega)
      clear hc
      refine sgo ?_
      refine srst (v := str [115, 112, 111, 105, 108, 116]) hS 0 (fun w14 hS => ?_) (hk := by omega)
      refine sgo ?_
      refine ⟨(i + 1, _), ⟨rfl, rfl, rfl, rfl, rfl, rfl, trivial⟩, ⟨hlt, ?_, hS⟩, (by (try dsimp only); omega)⟩
      have := (hS.row 0 rfl).len
      rw [Nat.mul_one] at this
      exact this
    · clear hc
      refine sgo ?_
      refine wlpure (sameNames_ok k.stack k.stack q2 q4 c2 c4 (by omega) (by omega) wr (hS.im 3 rfl) (hS.im 2 rfl)) fun w14 hf14 => ?_
      replace hS := hS.grow hf14
      rw [decide_eq_true rfl]
      refine sgo ?_
      refine wlcallgp (vals := []) (fun _ => awake18_ok _ (hA.frm hS.frm)) (fun w15 hf15 => ?_) (ha := fun _ => rfl)
      replace hS := hS.grow hf15
      refine sgo ?_
      (first | refine fp1 (.inl rfl) rfl rfl ?_ | refine fp2 (.inl rfl) rfl rfl rfl ?_ | refine fp3 (.inl rfl) rfl rfl rfl rfl ?_ | refine fp0 (.inr rfl) rfl ?_ | refine fp0 (.inl rfl) rfl ?_ | refine fp1 (.inr rfl) rfl rfl ?_); refine ⟨?_, by (first | exact Frm.refl _ | assumption | exact Go.Sv.Sep.frm (by assumption) | (refine Frm.trans ?_ (by assumption); first | exact Frm.refl _ | assumption))⟩; (try simp only [realB, rv_true, Nat.reduceBEq, cond_true, cond_false, entG, real_lif, updGL])
      simp [pkb]
  · refine wcyes ?_ (ht := by simpa using he)
    rw [show openS k = [] from if_neg he, show depthS k = 0 from if_neg he]
    refine sgo ?_
    refine wlcallgp (vals := []) (fun _ => awake18_ok _ (hA.frm hS.frm)) (fun w11 hf11 => ?_) (ha := fun _ => rfl)
    replace hS := hS.grow hf11
    refine sgo ?_
    (first | refine fp1 (.inl rfl) rfl rfl ?_ | refine fp2 (.inl rfl) rfl rfl rfl ?_ | refine fp3 (.inl rfl) rfl rfl rfl rfl ?_ | refine fp0 (.inr rfl) rfl ?_ | refine fp0 (.inl rfl) rfl ?_ | refine fp1 (.inr rfl) rfl rfl ?_); refine ⟨?_, by (first | exact Frm.refl _ | assumption | exact Go.Sv.Sep.frm (by assumption) | (refine Frm.trans ?_ (by assumption); first | exact Frm.refl _ | assumption))⟩; (try simp only [realB, rv_true, Nat.reduceBEq, cond_true, cond_false, entG, real_lif, updGL])
    simp [pkb]
end Go.Proofs.YthgbpgjpnaanlaaDoor

/-
  Package event: copied, Wrap; sievelaw18: spoil.
-/
set_option linter.unusedSimpArgs false
set_option linter.unusedVariables false
set_option linter.unnecessarySimpa false
namespace Go.Sv
open Go Go.RowKit
theorem y_slnil {P : Program} {σ : Env} {w : World} {d : Option Tmp} {ty t t' e : TypeId} {pos : String} {af : Array Edge} {g : Option (Nat × Bool)} {x y : Operand} {p : Option Addr} {n c : Nat} [hu : Und P t (.slice e)] (hx : evl σ x = .slice p n c) (hy : evl σ y = .slice none 0 0) : Y P σ ⟨d, .binOp .eql t x y t', ty, pos, af, g⟩ w (.bool p.isNone) w := by
  refine Y.val ?_
  have h : ∀ k : Nat, (Op.equalIn (k + 1) t (.slice p n c) (.slice none 0 0)).run P w = .ok p.isNone w := fun k => by
    cases p <;> simp [Op.equalIn, run_underlying hu.ok]
  simp only [execOp, hx, hy]
  simp [eqGuard, binOp, Op.equal, Op.maxDepth, h 9999]
end Go.Sv
namespace Go.Proofs.YthgbpgjpnaanlaaDoor
open Go Go.Sv Go.RowKit

set_option maxHeartbeats 1000000 in
theorem cloneAt_ok (es : List At) (p : Option Addr) (c : Nat) (hn : es.length ≤ 1048576) (w0 w : World) (cs : List Plot) (hS : Sep w0 w cs) (hi : Im [] w p (es.flatMap At.cells)) :
    CallsR Tryd.prog 55 #[.slice p es.length c] w fun v w' => ∃ q cc, v = .slice q es.length cc ∧ Frm w w' ∧ Sep w0 w' (pRow 2 q es.length cc (es.flatMap At.cells) :: cs) := by
  have hS0 := hS
  replace hS := Sep.start w
  have hl1 := fm_len At.len es
  refine enter (l := [.slice p es.length c]) Tryd.func55 rfl Tryd.ntmps55 (by kernel_rfl) rfl ?_
  refine sgo ?_
  refine wl ?_ (y_slnil rfl rfl)
  cases p with
  | none =>
    have he : es = [] := by
      rcases hi with h | ⟨a, h, _⟩
      · exact List.length_eq_zero_iff.1 (by rw [h] at hl1; simp at hl1; omega)
      · cases h
    subst he
    refine sgo ?_
    (first | refine fp1 (.inl rfl) rfl rfl ?_ | refine fp2 (.inl rfl) rfl rfl rfl ?_ | refine fp3 (.inl rfl) rfl rfl rfl rfl ?_ | refine fp0 (.inr rfl) rfl ?_ | refine fp0 (.inl rfl) rfl ?_ | refine fp1 (.inr rfl) rfl rfl ?_)
    exact ⟨none, 0, rfl, Frm.refl w, hS0.push (Frm.refl w) (Row.nil w 2) (by simp [pRow, rb])⟩
  | some a =>
    rw [show (some a).isNone = false from rfl]
    refine sgo ?_
    refine sb0 hS fun b5 w5 hS => ?_
    refine sgo ?_
    refine sapp hS 0 (hi.sep hS).sg (fun q2 c2 w6 hS => ?_) (hl := by omega) (h1 := att_one es)
    rw [List.nil_append, show 0 + es.length = es.length from Nat.zero_add _] at hS
    rw [show 0 + es.length = es.length from Nat.zero_add _]
    refine sgo ?_
    (first | refine fp1 (.inl rfl) rfl rfl ?_ | refine fp2 (.inl rfl) rfl rfl rfl ?_ | refine fp3 (.inl rfl) rfl rfl rfl rfl ?_ | refine fp0 (.inr rfl) rfl ?_ | refine fp0 (.inl rfl) rfl ?_ | refine fp1 (.inr rfl) rfl rfl ?_)
    exact ⟨q2, c2, rfl, hS.frm, hS0.seq hS⟩
set_option maxHeartbeats 1000000 in
theorem evCopied_ok (e : Ev) (p : Option Addr) (c : Nat) (hs : e.small) (w0 w : World) (cs : List Plot) (hS : Sep w0 w cs) (hi : Im [] w p (e.attrs.flatMap At.cells)) :
    CallsR Tryd.prog 48 #[.agg ⟨e.cells p c⟩] w fun v w' => ∃ q cc, v = .agg ⟨e.cells q cc⟩ ∧ Frm w w' ∧ Sep w0 w' (pRow 2 q e.attrs.length cc (e.attrs.flatMap At.cells) :: cs) := by
  have hS0 := hS
  replace hS := Sep.start w
  obtain ⟨k, nm, tx, es⟩ := e
  have hes := hs.attrs
  dsimp only at hi hes
  refine enter (l := [.agg ⟨Ev.cells ⟨k, nm, tx, es⟩ p c⟩]) Tryd.func48 rfl Tryd.ntmps48 (by kernel_rfl) rfl ?_
  refine WC_seq ?_
  refine WC_region ?_
  refine sbox (v := .agg ⟨Ev.cells ⟨k, nm, tx, es⟩ p c⟩) hS fun b1 w1 hS => ?_
  replace hS : Sep w w1 [pOwn b1 [int k, str nm, str tx, .slice p es.length c]] := hS
  refine sgo ?_
  refine salloc hS fun b2 w2 hS => ?_
  refine sgo ?_
  refine wlcall (cloneAt_ok es p c hes w w2 _ hS (hi.sep hS)) ?_
  rintro _ w3 ⟨q, cc, rfl, -, hS⟩
  refine sgo ?_
  refine sst_slice hS 2 fun w4 hS => ?_
  refine sgo ?_
  refine ssta (vs := Ev.cells ⟨k, nm, tx, es⟩ q cc) hS 1 fun w5 hS => ?_
  refine sgo ?_
  refine fpc (.inl rfl) rfl rfl rfl (hS.own 1 rfl) ⟨q, cc, rfl, hS.frm, hS0.seq (ds := [_]) (hS.sub (List.Sublist.cons_cons _ (List.nil_sublist _)))⟩

def spM : EvM := ⟨⟨9, [115, 112, 111, 105, 108, 116], [], []⟩, none, 0⟩
set_option maxHeartbeats 2000000 in
theorem evSpoil_ok (ns : List EvM) (q : Option Addr) (cc : Nat) (h1 : ns.length ≤ 1048578) (hs : ∀ m ∈ ns, m.e.small) (w0 w : World) (cs : List Plot) (hS : Sep w0 w (pRow 4 q ns.length cc (ns.flatMap EvM.cells) :: pMany (ns.map EvM.row) :: cs)) :
    CallsR Tryd.prog 24 #[.slice q ns.length cc] w fun _ w' => Sep w0 w' cs := by
  refine enter (l := [.slice q ns.length cc]) Tryd.func24 rfl Tryd.ntmps24 (by kernel_rfl) rfl ?_
  refine sgo ?_
  refine wcloop (X := Nat × List RowD) (fun x => [(0, .slice q ns.length cc), (5, int ns.length), (6, int x.1)])
    (fun x wr => x.1 ≤ ns.length ∧ (x.2.length = ns.length ∧ ∀ (j : Nat) (m : EvM) (r : RowD), ns[j]? = some m → x.2[j]? = some r → r.p = m.p ∧ r.size = 2 ∧ r.n = m.e.attrs.length) ∧ Sep w0 wr (pRow 4 q ns.length cc (((ns.take x.1).map (fun _ => spM) ++ ns.drop x.1).flatMap EvM.cells) :: pMany x.2 :: cs))
    (fun x => ns.length - x.1) (0, ns.map EvM.row) ⟨rfl, rfl, rfl, trivial⟩ ⟨Nat.zero_le _, ⟨by simp, ?_⟩, by simpa using hS⟩ ?_
  · intro j m r hm hr
    simp only [List.getElem?_map, hm, Option.map_some, Option.some.injEq] at hr
    subst hr
    exact ⟨rfl, rfl, rfl⟩
  clear hS
  rintro ⟨i, rs⟩ wr ρ ⟨hil, ⟨hrl, hrs⟩, hS⟩
  dsimp only at *
  refine sgo ?_
  (show WC _ _ _ _ _ _ _; first | refine WC_dec rfl (fun hc => ?_) (fun hc => ?_) | refine WC_cond rfl (fun hc => ?_) (fun hc => ?_))
  · have hlt : i < ns.length := by omega
    have hx : ns[i]? = some ns[i] := List.getElem?_eq_getElem hlt
    have hsm := hs _ (List.getElem_mem hlt)
    have hxi : ((ns.take i).map (fun _ => spM) ++ ns.drop i)[i]? = some ns[i] := by rw [List.getElem?_append_right (by simp; omega)]; simp [hlt, Nat.min_eq_left (Nat.le_of_lt hlt)]
    have hset : ((ns.take i).map (fun _ => spM) ++ ns.drop i).set i spM = (ns.take (i + 1)).map (fun _ => spM) ++ ns.drop (i + 1) := by
      rw [List.set_append_right _ _ (by simp; omega), List.take_add_one, hx, List.map_append]
      simp only [List.length_map, List.length_take, Nat.min_eq_left (Nat.le_of_lt hlt), Nat.sub_self, Option.toList, List.map_cons, List.map_nil, List.append_assoc, List.cons_append, List.nil_append]
      rw [List.drop_eq_getElem_cons hlt]
      rfl
    have hg3 := fm_get EvM.len ((ns.take i).map (fun _ => spM) ++ ns.drop i) i 3 (by omega)
    rw [hxi] at hg3
    replace hg3 : (((ns.take i).map (fun _ => spM) ++ ns.drop i).flatMap EvM.cells)[i * 4 + 3]? = some (.slice ns[i].p ns[i].e.attrs.length ns[i].c) := hg3
    have hup := flat_upd_all (f := EvM.cells) (k := 4) EvM.len ((ns.take i).map (fun _ => spM) ++ ns.drop i) i ns[i] spM hxi
    rw [hset] at hup
    have hfl := fm_len EvM.len ((ns.take i).map (fun _ => spM) ++ ns.drop i)
    have hml : ((ns.take i).map (fun _ => spM) ++ ns.drop i).length = ns.length := by simp; omega
    rw [hml] at hfl
    have hps : ∃ a, q = some a := (hS.row 0 rfl).sg.some (by rw [hfl]; omega)
    have hri : rs[i]? = some rs[i] := List.getElem?_eq_getElem (by omega)
    obtain ⟨e1, e2, e3⟩ := hrs i _ _ hx hri
    have hes := hsm.attrs
    generalize ns[i] = m at *
    generalize ((ns.take i).map (fun _ => spM) ++ ns.drop i).flatMap EvM.cells = F at *
    generalize hr0 : rs[i] = r0 at *
    clear hc hxi hr0
    obtain ⟨rz, rp, rn, rc, rx⟩ := r0
    dsimp only at e1 e2 e3
    subst e1 e2 e3
    refine sgo ?_
    refine wcloop (X := Nat × List Value) (fun x => [(0, .slice q ns.length cc), (2, int i), (5, int ns.length), (6, int i), (14, int m.e.attrs.length), (15, int x.1)])
      (fun x wr => x.1 ≤ m.e.attrs.length ∧ Sep w0 wr (pRow 4 q ns.length cc F :: pMany (rs.set i ⟨2, m.p, m.e.attrs.length, rc, x.2⟩) :: cs)) (fun x => m.e.attrs.length - x.1) (0, rx) ⟨rfl, rfl, rfl, rfl, rfl, rfl, trivial⟩ ⟨Nat.zero_le _, ?_⟩ ?_
    · have e : rs.set i ⟨2, m.p, m.e.attrs.length, rc, rx⟩ = rs := by
        obtain ⟨h, hh⟩ := List.getElem?_eq_some_iff.1 hri
        rw [← hh, List.set_getElem_self]
      dsimp only
      rw [e]; exact hS
    clear hS
    rintro ⟨k, ys⟩ wr2 ρ2 ⟨hk, hS⟩
    dsimp only at *
    refine sgo ?_
    (show WC _ _ _ _ _ _ _; first | refine WC_dec rfl (fun hc => ?_) (fun hc => ?_) | refine WC_cond rfl (fun hc => ?_) (fun hc => ?_))
    · have hkl : k < m.e.attrs.length := by omega
      clear hc
      have hj : (rs.set i ⟨2, m.p, m.e.attrs.length, rc, ys⟩)[i]? = some ⟨2, m.p, m.e.attrs.length, rc, ys⟩ := by rw [List.getElem?_set_self (by omega)]
      have hrow := hS.many 1 rfl _ (List.mem_of_getElem? hj)
      have hrl2 : ys.length = m.e.attrs.length * 2 := Row.len hrow
      have hmp : ∃ a, m.p = some a := (Row.sg hrow).some (by dsimp only; omega)
      refine sgo ?_
      refine wlbuild ?_
      refine sgo ?_
      refine smst (v := .agg ⟨[str [115, 112, 111, 105, 108, 116], str []]⟩) (k := k * 2) hS 1 hj (fun w3 hS => ?_) (hk := by dsimp only; omega)
      refine sgo ?_
      refine ⟨(k + 1, ys.take (k * 2) ++ [str [115, 112, 111, 105, 108, 116], str []] ++ ys.drop (k * 2 + 2)), ⟨rfl, rfl, rfl, rfl, rfl, rfl, trivial⟩, ⟨hkl, ?_⟩, (by (try dsimp only); omega)⟩
      have hS2 := hS
      simp only [List.set_set, List.set_cons_succ, List.set_cons_zero] at hS2
      exact hS2
    · clear hc
      refine sgo ?_
      refine wlbuild ?_
      refine sgo ?_
      refine srst (v := .agg ⟨spM.cells⟩) (j := i * 4) hS 0 (fun w3 hS => ?_) (hk := by omega)
      refine sgo ?_
      refine ⟨(i + 1, rs.set i ⟨2, m.p, m.e.attrs.length, rc, ys⟩), ⟨rfl, rfl, rfl, trivial⟩, ⟨hlt, ⟨by simp [hrl], ?_⟩, ?_⟩, (by (try dsimp only); omega)⟩
      · intro j m' r' hm' hr'
        by_cases hji : j = i
        · subst hji
          rw [List.getElem?_set_self (by omega)] at hr'
          injection hr' with hr'
          rw [hx] at hm'
          injection hm' with hm'
          subst hr' hm'
          exact ⟨rfl, rfl, rfl⟩
        · rw [List.getElem?_set_ne (fun h => hji h.symm)] at hr'
          exact hrs j m' r' hm' hr'
      · rw [← hup]; exact hS
  · refine sgo ?_
    (first | refine fp1 (.inl rfl) rfl rfl ?_ | refine fp2 (.inl rfl) rfl rfl rfl ?_ | refine fp3 (.inl rfl) rfl rfl rfl rfl ?_ | refine fp0 (.inr rfl) rfl ?_ | refine fp0 (.inl rfl) rfl ?_ | refine fp1 (.inr rfl) rfl rfl ?_)
    exact hS.tail.tail
end Go.Proofs.YthgbpgjpnaanlaaDoor

/-
  Package event: Wrap.
-/
set_option linter.unusedSimpArgs false
set_option linter.unusedVariables false
set_option linter.unnecessarySimpa false
namespace Go.Proofs.YthgbpgjpnaanlaaDoor
open Go Go.Sv Go.RowKit

def firstE (n : List UInt8) (es : List At) : Ev := ⟨1, n, [], es⟩
def wrapC (f : Ev) (k : Lk) : Int := if evR f = false then 180 else if k.err ≠ 0 then k.err else if k.stack = [] then 0 else 181
def wrapE (n : List UInt8) (es : List At) (l : List Ev) : List Ev := if wrapC (firstE n es) (lkR l) = 0 then firstE n es :: l ++ [closeE n] else []
set_option maxHeartbeats 4000000 in
theorem wrap_ok (n : List UInt8) (es : List At) (ms : List EvM) (pa p : Option Addr) (ca c : Nat) (hf : (firstE n es).small) (hn : ms.length ≤ 1048576) (hs : ∀ m ∈ ms, m.e.small) (w0 w : World) (cs : List Plot) (hS0 : Sep w0 w cs) (hA : Asc w) (hi : Im [] w pa (es.flatMap At.cells)) (hE : Evs w p ms) :
    CallsR Tryd.prog 26 #[str n, .slice pa es.length ca, .slice p ms.length c] w fun v w' => ∃ q cc ns, v = .tuple #[.slice q ns.length cc, int (wrapC (firstE n es) (lkR (evs ms)))] ∧ evs ns = wrapE n es (evs ms) ∧ Frm w w' ∧ Sep w0 w' (pRow 4 q ns.length cc (ns.flatMap EvM.cells) :: pMany (ns.map EvM.row) :: cs) := by
  have hS := Sep.start w
  have hes := hf.attrs
  dsimp only [firstE] at hes
  have hnil : ∀ (k : Int), k ≠ 0 → wrapC (firstE n es) (lkR (evs ms)) = k → ∀ w1, Frm w w1 → ∃ q cc ns, (Value.tuple #[.slice none 0 0, int k]) = .tuple #[.slice q (List.length ns) cc, int (wrapC (firstE n es) (lkR (evs ms)))] ∧ evs ns = wrapE n es (evs ms) ∧ Frm w w1 ∧ Sep w0 w1 (pRow 4 q ns.length cc (ns.flatMap EvM.cells) :: pMany (ns.map EvM.row) :: cs) := by
    intro k h0 h1 w1 hf1
    refine ⟨none, 0, [], by rw [h1]; rfl, by rw [wrapE, h1, if_neg h0]; rfl, hf1, ?_⟩
    exact ((hS0.grow hf1).zero).push (Frm.refl w1) (Row.nil w1 4) (by simp [pRow, rb])
  refine enter (l := [str n, .slice pa es.length ca, .slice p ms.length c]) Tryd.func26 rfl Tryd.ntmps26 (by kernel_rfl) rfl ?_
  refine sgo ?_
  refine wlbuild ?_
  refine wlcall (evCopied_ok (firstE n es) pa ca hf w w [] hS hi) ?_
  rintro _ w1 ⟨q1, c1, rfl, -, hS⟩
  refine sgo ?_
  refine salloc hS fun b8 w2 hS => ?_
  refine sgo ?_
  refine ssta (vs := [int 1, str n, str [], .slice q1 es.length c1]) hS 0 fun w3 hS => ?_
  replace hS : Sep w w3 [pOwn b8 [int 1, str n, str [], .slice q1 es.length c1], pRow 2 q1 es.length c1 (es.flatMap At.cells)] := hS
  refine sgo ?_
  refine wlpure (evCheck_ok (firstE n es) q1 c1 hf w3 (hA.frm hS.frm) (hS.im 1 rfl)) fun w4 hf4 => ?_
  replace hS := hS.grow hf4
  cases he : evR (firstE n es) with
  | false =>
    have hC : wrapC (firstE n es) (lkR (evs ms)) = 180 := by rw [wrapC, if_pos he]
    refine sgo ?_
    (first | refine fp1 (.inl rfl) rfl rfl ?_ | refine fp2 (.inl rfl) rfl rfl rfl ?_ | refine fp3 (.inl rfl) rfl rfl rfl rfl ?_ | refine fp0 (.inr rfl) rfl ?_ | refine fp0 (.inl rfl) rfl ?_ | refine fp1 (.inr rfl) rfl rfl ?_)
    exact hnil 180 (by decide) hC _ hS.frm
  | true =>
    refine sgo ?_
    refine wlcall (open_ok2 ms p c hn hs w w4 _ hS (hA.frm hS.frm) (hE.frm hS.frm)) ?_
    rintro _ w5 ⟨q5, c5, rfl, -, hS⟩
    refine sgo ?_
    by_cases hr : (lkR (evs ms)).err = 0
    · have ho : openS (lkR (evs ms)) = (lkR (evs ms)).stack := if_pos hr
      rw [ho] at hS ⊢
      refine wcno ?_ (ht := by simpa using hr)
      by_cases hst : (lkR (evs ms)).stack = []
      · have hC : wrapC (firstE n es) (lkR (evs ms)) = 0 := by rw [wrapC, if_neg (by simp [he]), if_neg (by simp [hr]), if_pos hst]
        rw [hst]
        refine sgo ?_
        refine sb1a (vs := EvM.cells ⟨firstE n es, q1, c1⟩) hS fun b36 w6 hS => ?_
        replace hS := hS.turn 0 (c' := pRow 4 (pb b36) 1 1 (([⟨firstE n es, q1, c1⟩] : List EvM).flatMap EvM.cells)) rfl (fun h => Row.of_own (n := 1) h rfl (by decide)) (fun x hx => hx)
        replace hS := ((((hS.drop 1 rfl).drop 1 rfl).zero).front 2 rfl).more.front 1 rfl
        refine sgo ?_
        refine wcloop (X := Nat × Option Addr × Nat × List EvM) (fun x => [(0, str n), (12, .slice x.2.1 (x.1 + 1) x.2.2.1), (37, .slice p ms.length c), (38, int ms.length), (39, int x.1)])
          (fun x wr => x.1 ≤ ms.length ∧ x.2.2.2.length = x.1 + 1 ∧ evs x.2.2.2 = firstE n es :: (evs ms).take x.1 ∧ Sep w wr [pRow 4 x.2.1 (x.1 + 1) x.2.2.1 (x.2.2.2.flatMap EvM.cells), pMany (x.2.2.2.map EvM.row)])
          (fun x => ms.length - x.1) (0, pb b36, 1, [⟨firstE n es, q1, c1⟩]) ⟨rfl, rfl, rfl, rfl, rfl, trivial⟩ ⟨Nat.zero_le _, rfl, rfl, hS⟩ ?_
        clear hS
        rintro ⟨i, q, cc, ns⟩ wr ρ ⟨hil, hnl, hev, hS⟩
        dsimp only at *
        have hIm := hE.im
        refine sgo ?_
        (show WC _ _ _ _ _ _ _; first | refine WC_dec rfl (fun hc => ?_) (fun hc => ?_) | refine WC_cond rfl (fun hc => ?_) (fun hc => ?_))
        · have hlt : i < ms.length := by omega
          have hx : ms[i]? = some ms[i] := List.getElem?_eq_getElem hlt
          have hmem : ms[i] ∈ ms := List.getElem_mem hlt
          have hseg := fm_seg EvM.len ms hx
          have hfl := fm_len EvM.len ms
          have hat := hE.each _ hmem
          have hsm := hs _ hmem
          have hps : ∃ a, p = some a := hE.im.sg.some (by omega)
          have htk : (evs ms).take (i + 1) = (evs ms).take i ++ [ms[i].e] := by rw [List.take_add_one, evs_at hx]; rfl
          generalize ms[i] = m at *
          clear hc
          obtain ⟨e, mp, mc⟩ := m
          dsimp only at hat hsm
          refine sgo ?_
          rw [hseg]
          refine salloc hS fun b5 w5 hS => ?_
          refine sgo ?_
          refine ssta (vs := e.cells mp mc) hS 0 fun w6 hS => ?_
          replace hS : Sep w w6 [pOwn b5 [int e.kind, str e.name, str e.text, .slice mp e.attrs.length mc], pRow 4 q (i + 1) cc (ns.flatMap EvM.cells), pMany (ns.map EvM.row)] := hS
          refine sgo ?_
          refine wlcall (evCopied_ok e mp mc hsm w w6 _ hS (hat.sep hS)) ?_
          rintro _ w7 ⟨q2, c2, rfl, -, hS⟩
          refine sgo ?_
          refine sb1a (vs := EvM.cells ⟨e, q2, c2⟩) hS fun b12 w12 hS => ?_
          refine sgo ?_
          refine sapp hS 3 (hS.own 0 rfl).sg (fun q4 c4 w13 hS => ?_) (h1 := ev_one _ _ _)
          rw [evs_flat] at hS
          refine sgo ?_
          have h1 := (hS.drop 0 rfl).drop 1 rfl
          have h2 := (((h1.front 2 rfl).front 1 rfl).more).front 1 rfl
          refine ⟨(i + 1, q4, c4, ns ++ [⟨e, q2, c2⟩]), ⟨rfl, rfl, rfl, rfl, rfl, trivial⟩, ⟨hlt, by simp [hnl], by dsimp only; rw [evs_snoc, hev, htk]; rfl, ?_⟩, (by (try dsimp only); omega)⟩
          rw [List.map_append]
          exact h2
        · obtain rfl : i = ms.length := by omega
          clear hc
          rw [← evs_len ms, List.take_length] at hev
          refine sgo ?_
          refine wlbuild ?_
          refine sb1a (vs := (closeM n).cells) hS fun b9 w9 hS => ?_
          refine sapp hS 1 (hS.own 0 rfl).sg (fun q4 c4 w10 hS => ?_) (h1 := ev_one _ _ _)
          rw [evs_flat] at hS
          refine sgo ?_
          (first | refine fp1 (.inl rfl) rfl rfl ?_ | refine fp2 (.inl rfl) rfl rfl rfl ?_ | refine fp3 (.inl rfl) rfl rfl rfl rfl ?_ | refine fp0 (.inr rfl) rfl ?_ | refine fp0 (.inl rfl) rfl ?_ | refine fp1 (.inr rfl) rfl rfl ?_)
          have hrow : (ns ++ [closeM n]).map EvM.row = ns.map EvM.row ++ [⟨2, none, 0, 0, []⟩] := by rw [List.map_append]; rfl
          refine ⟨q4, c4, ns ++ [closeM n], ?_, ?_, hS.frm, ?_⟩
          · rw [hC, List.length_append, hnl]; rfl
          · rw [evs_snoc, hev, wrapE, if_pos hC]; rfl
          · rw [List.length_append, hnl, hrow]
            have h1 := ((hS.drop 0 rfl).push (c := pRow 2 none 0 0 []) (Frm.refl _) (Row.nil _ 2) (by simp [pRow, rb]))
            have h2 := (((h1.front 2 rfl).front 1 rfl).more).front 1 rfl
            exact hS0.seq (ds := [_, _]) h2
      · have hC : wrapC (firstE n es) (lkR (evs ms)) = 181 := by rw [wrapC, if_neg (by simp [he]), if_neg (by simp [hr]), if_neg hst]
        have hpos : 0 < (lkR (evs ms)).stack.length := List.length_pos_iff.2 hst
        refine sgo ?_
        refine wcyes ?_ (ht := decide_eq_true (by omega))
        refine sgo ?_
        (first | refine fp1 (.inl rfl) rfl rfl ?_ | refine fp2 (.inl rfl) rfl rfl rfl ?_ | refine fp3 (.inl rfl) rfl rfl rfl rfl ?_ | refine fp0 (.inr rfl) rfl ?_ | refine fp0 (.inl rfl) rfl ?_ | refine fp1 (.inr rfl) rfl rfl ?_)
        exact hnil 181 (by decide) hC _ hS.frm
    · have hC : wrapC (firstE n es) (lkR (evs ms)) = (lkR (evs ms)).err := by rw [wrapC, if_neg (by simp [he]), if_pos hr]
      refine wcyes ?_ (ht := by simpa using hr)
      refine sgo ?_
      (first | refine fp1 (.inl rfl) rfl rfl ?_ | refine fp2 (.inl rfl) rfl rfl rfl ?_ | refine fp3 (.inl rfl) rfl rfl rfl rfl ?_ | refine fp0 (.inr rfl) rfl ?_ | refine fp0 (.inl rfl) rfl ?_ | refine fp1 (.inr rfl) rfl rfl ?_)
      exact hnil _ hr hC _ hS.frm
end Go.Proofs.YthgbpgjpnaanlaaDoor

/-
  Regions that draw their order, whatever they make: by a plan that says of each operation what it yields, makes and takes.
-/
set_option linter.unusedSimpArgs false
set_option linter.unusedVariables false
set_option linter.unnecessarySimpa false
namespace Go.Sv
open Go Go.RowKit

theorem Sep.perm {w0 w : World} {cs ds : List Plot} (h : Sep w0 w cs) (hp : cs.Perm ds) : Sep w0 w ds :=
  ⟨h.frm, fun c hc => h.ok c (hp.mem_iff.2 hc), fun c hc => h.low c (hp.mem_iff.2 hc), hp.pairwise h.apart fun h x hx hx' => h x hx' hx⟩
theorem filter_insert {α : Type} [DecidableEq α] {k : α} {q : α → Bool} (hq : q k = false) : ∀ {l : List α}, l.Nodup → k ∈ l → (l.filter fun j => decide (j = k) || q j).Perm (k :: l.filter q)
  | [], _, h => by cases h
  | x :: l, hn, hm => by
    rw [List.nodup_cons] at hn
    by_cases e : x = k
    · subst e
      have hrest : l.filter (fun j => decide (j = x) || q j) = l.filter q := by
        refine List.filter_congr fun j hj => ?_
        have : j ≠ x := fun h => hn.1 (h ▸ hj)
        simp [this]
      simp only [List.filter_cons, decide_true, Bool.true_or, if_true, hq, Bool.false_eq_true, if_false, hrest]
      exact List.Perm.refl _
    · have hm' : k ∈ l := by
        rcases List.mem_cons.1 hm with h | h
        · exact absurd h.symm e
        · exact h
      have ih := filter_insert hq hn.2 hm'
      simp only [List.filter_cons, decide_eq_false e, Bool.false_or]
      cases q x with
      | false => simpa using ih
      | true => simpa using (ih.cons x).trans (List.Perm.swap k x _)

structure Plan (D : Type) where
  val : Nat → D → Value
  pl : Nat → D → List Plot
  con : Nat → Option Nat
  fact : Nat → (Nat → D) → Prop
section
variable {D : Type}
def setD (a : Nat → D) (k : Nat) (d : D) : Nat → D := fun j => if j = k then d else a j
theorem setD_same (a : Nat → D) (k : Nat) (d : D) : setD a k d k = d := if_pos rfl
theorem setD_ne (a : Nat → D) {k j : Nat} (d : D) (h : j ≠ k) : setD a k d j = a j := if_neg h
def Plan.live (p : Plan D) (L : Nat → Bool) (j : Nat) : Bool := L j && (match p.con j with | some c => !L c | none => true)
def Plan.mem (p : Plan D) (n : Nat) (L : Nat → Bool) (a : Nat → D) : List Plot := ((List.range n).filter (p.live L)).flatMap fun j => p.pl j (a j)
/-- what operation k takes -/
def Plan.takes (p : Plan D) (n k : Nat) (a : Nat → D) : List Plot := ((List.range n).filter fun j => decide (p.con j = some k)).flatMap fun j => p.pl j (a j)
def Plan.S (p : Plan D) (w0 : World) (cs : List Plot) (σ0 : Env) (ops : List Oper) (L : Nat → Bool) (σ : Env) (w : World) : Prop :=
  (∀ s, (∀ (k : Nat) (o : Oper), ops[k]? = some o → o.dst ≠ some s) → σ s = σ0 s) ∧
  ∃ a : Nat → D, (∀ (k : Nat) (o : Oper), ops[k]? = some o → L k = true → (∀ d, o.dst = some d → σ d = p.val k (a k)) ∧ p.fact k a) ∧ Sep w0 w (p.mem ops.length L a ++ cs)
/-- how operation k goes, by the plan -/
def Plan.Rule (p : Plan D) (P : Program) (w0 : World) (cs : List Plot) (σ0 : Env) (ops : List Oper) (k : Nat) (o : Oper) : Prop :=
  ∀ (a : Nat → D) (σ : Env) (w : World) (rest : List Plot), (∀ s, (∀ (k : Nat) (o : Oper), ops[k]? = some o → o.dst ≠ some s) → σ s = σ0 s) →
    (∀ (j : Nat) (oj : Oper), bindsOn o j = true → ops[j]? = some oj → (∀ d, oj.dst = some d → σ d = p.val j (a j)) ∧ p.fact j a) → Sep w0 w (p.takes ops.length k a ++ (cs ++ rest)) →
    (Region.wanted o (yl ops.toArray σ) = true ∧ comes P (fun v w' => ∃ d, v = p.val k d ∧ p.fact k (setD a k d) ∧ Sep w0 w' (p.pl k d ++ (cs ++ rest))) ((execOp (evl σ) o).run P w)) ∨
    (Region.wanted o (yl ops.toArray σ) = false ∧ ∃ d, undef = p.val k d ∧ p.fact k (setD a k d) ∧ Sep w0 w (p.pl k d ++ (cs ++ rest)))
def Plan.Rules (p : Plan D) (P : Program) (w0 : World) (cs : List Plot) (σ0 : Env) (ops : List Oper) : Nat → List Oper → Prop
  | _, [] => True
  | k, o :: l => p.Rule P w0 cs σ0 ops k o ∧ p.Rules P w0 cs σ0 ops (k + 1) l
/-- the plan's book-keeping: whoever takes waits; targets differ -/
def planB (con : Nat → Option Nat) (ops : List Oper) : Bool :=
  (List.range ops.length).all fun j => (match con j with
    | some c => decide (c < ops.length) && (match ops[c]? with | some oc => bindsOn oc j | none => false)
    | none => true) && (List.range ops.length).all fun i => decide (i = j) || (match ops[i]?, ops[j]? with
      | some oi, some oj => (match oi.dst with | some d => decide (oj.dst ≠ some d) | none => true)
      | _, _ => true)
theorem comes_mono {P : Program} {T T' : Value → World → Prop} (h : ∀ v w, T v w → T' v w) : ∀ {r : Result Next}, comes P T r → comes P T' r := by
  intro r hr
  unfold comes at *
  split at hr
  · exact h _ _ hr
  · exact h _ _ hr
  · exact Calls.mono hr fun e w ⟨v, he, hv⟩ => ⟨v, he, h _ _ hv⟩
  · exact hr.elim
theorem plan_step {p : Plan D} {P : Program} {w0 : World} {cs : List Plot} {σ0 : Env} {ops : List Oper} (hB : planB p.con ops = true)
    (hF : ∀ (j : Nat) (oj : Oper) (a a' : Nat → D), ops[j]? = some oj → a j = a' j → (∀ i, bindsOn oj i = true → a i = a' i) → p.fact j a → p.fact j a') {k : Nat} {o : Oper} (hk : ops[k]? = some o) (h : p.Rule P w0 cs σ0 ops k o) : StepI P ops.toArray (p.S w0 cs σ0 ops) k o := by
  rintro L σ w hu ⟨hσ, a, hA, hS⟩
  have hkn : k < ops.length := by
    rcases Nat.lt_or_ge k ops.length with h | h
    · exact h
    · rw [List.getElem?_eq_none h] at hk; cases hk
  have hcon : ∀ j c, j < ops.length → p.con j = some c → ∃ oc, ops[c]? = some oc ∧ bindsOn oc j = true := by
    intro j c hj hc
    have := List.all_eq_true.1 hB j (List.mem_range.2 hj)
    rw [Bool.and_eq_true, hc] at this
    have h1 := this.1
    simp only [Bool.and_eq_true, decide_eq_true_eq] at h1
    rw [List.getElem?_eq_getElem h1.1] at h1
    exact ⟨_, List.getElem?_eq_getElem h1.1, h1.2⟩
  have hdst : ∀ (i j : Nat) (oi oj : Oper) (d : Nat), ops[i]? = some oi → ops[j]? = some oj → i ≠ j → oi.dst = some d → oj.dst ≠ some d := by
    intro i j oi oj d hi hj hne hd
    have hjn : j < ops.length := (List.getElem?_eq_some_iff.1 hj).1
    have hin : i < ops.length := (List.getElem?_eq_some_iff.1 hi).1
    have := List.all_eq_true.1 hB j (List.mem_range.2 hjn)
    rw [Bool.and_eq_true] at this
    have := List.all_eq_true.1 this.2 i (List.mem_range.2 hin)
    rw [hi, hj] at this
    simp only [hne, decide_false, Bool.false_or, hd, decide_eq_true_eq] at this
    exact this
  -- what k takes, and the rest
  let q : Nat → Bool := fun j => p.live L j && !decide (p.con j = some k)
  let rest : List Plot := ((List.range ops.length).filter q).flatMap fun j => p.pl j (a j)
  have htake : (List.range ops.length).filter (fun j => p.live L j && decide (p.con j = some k)) = (List.range ops.length).filter fun j => decide (p.con j = some k) := by
    refine List.filter_congr fun j hj => ?_
    by_cases hc : p.con j = some k
    · obtain ⟨oc, ho, hb⟩ := hcon j k (List.mem_range.1 hj) hc
      rw [hk] at ho
      injection ho with ho
      subst ho
      have h1 := hu.did j hb
      simp [Plan.live, hc, h1, hu.now]
    · simp [hc]
  have hperm : (p.mem ops.length L a ++ cs).Perm (p.takes ops.length k a ++ (cs ++ rest)) := by
    have h1 : ((List.range ops.length).filter fun j => decide (p.con j = some k)) ++ ((List.range ops.length).filter q) |>.Perm ((List.range ops.length).filter (p.live L)) := by
      have h2 := List.filter_append_perm (fun j => decide (p.con j = some k)) ((List.range ops.length).filter (p.live L))
      rw [List.filter_filter, List.filter_filter] at h2
      rw [← htake]
      refine List.Perm.trans ?_ h2
      refine List.Perm.append (List.Perm.of_eq (List.filter_congr fun j _ => Bool.and_comm _ _)) (List.Perm.of_eq (List.filter_congr fun j _ => Bool.and_comm _ _))
    have h3 := (h1.symm.flatMap_right fun j => p.pl j (a j))
    rw [List.flatMap_append] at h3
    refine (h3.append_right cs).trans ?_
    rw [List.append_assoc]
    exact List.Perm.append_left _ List.perm_append_comm
  have hlive : ∀ d, (p.mem ops.length (on L k) (setD a k d)).Perm (p.pl k d ++ rest) := by
    intro d
    have hq : q k = false := by simp [q, Plan.live, hu.now]
    have hl : (List.range ops.length).filter (p.live (on L k)) = (List.range ops.length).filter fun j => decide (j = k) || q j := by
      refine List.filter_congr fun j hj => ?_
      by_cases e : j = k
      · subst e
        have : (match p.con j with | some c => !(on L j c) | none => true) = true := by
          cases hc : p.con j with
          | none => rfl
          | some c =>
            obtain ⟨oc, ho, hb⟩ := hcon j c hkn hc
            have h1 := hu.ahead c oc (by simpa using ho) hb
            have hne : c ≠ j := by
              intro e
              subst e
              rw [hk] at ho
              injection ho with ho
              subst ho
              have := hu.did c hb
              rw [hu.now] at this
              cases this
            simp [on_ne L hne, h1]
        simp only [Plan.live, on_same, this, Bool.and_self, decide_true, Bool.true_or]
      · simp only [Plan.live, on_ne L e, decide_eq_false e, Bool.false_or, q]
        cases hc : p.con j with
        | none => simp
        | some c =>
          by_cases ec : c = k
          · subst ec; simp [on_same]
          · have : ¬ (some c = some k) := fun h => ec (Option.some.inj h)
            simp [on_ne L ec, this]
    unfold Plan.mem
    rw [hl]
    refine ((filter_insert hq List.nodup_range (List.mem_range.2 hkn)).flatMap_right fun j => p.pl j (setD a k d j)).trans ?_
    rw [List.flatMap_cons, setD_same]
    refine List.Perm.append_left _ (List.Perm.of_eq ?_)
    show _ = List.flatMap (fun j => p.pl j (a j)) (List.filter q (List.range ops.length))
    rw [List.flatMap_def, List.flatMap_def]
    refine congrArg _ (List.map_congr_left fun j hj => ?_)
    have : j ≠ k := by
      rintro rfl
      have := (List.mem_filter.1 hj).2
      rw [hq] at this; cases this
    rw [setD_ne a d this]
  have hnew : ∀ d w', p.fact k (setD a k d) → Sep w0 w' (p.pl k d ++ (cs ++ rest)) → p.S w0 cs σ0 ops (on L k) (updO σ o.dst (p.val k d)) w' := by
    intro d w' hf hS'
    refine ⟨fun s hs => ?_, setD a k d, fun j oj hj hL => ?_, ?_⟩
    · have h1 := hs k o hk
      cases hd : o.dst with
      | none => exact hσ s hs
      | some dd =>
        rw [hd] at h1
        exact (upd_ne σ _ (fun e => h1 (by rw [e]))).trans (hσ s hs)
    · by_cases e : j = k
      · subst e
        rw [hk] at hj
        injection hj with hj
        subst hj
        refine ⟨fun dd hd => ?_, hf⟩
        rw [hd, setD_same]
        exact upd_same σ dd _
      · rw [on_ne L e] at hL
        obtain ⟨h1, h2⟩ := hA j oj hj hL
        refine ⟨fun dd hd => ?_, ?_⟩
        · rw [setD_ne a d e, ← h1 dd hd]
          cases hdo : o.dst with
          | none => rfl
          | some d2 =>
            have := hdst k j o oj d2 hk hj (fun e2 => e e2.symm) hdo
            exact upd_ne σ _ (fun e2 => this (by rw [hd, e2]))
        · refine hF j oj a _ hj (setD_ne a d e).symm (fun i hi => ?_) h2
          have : i ≠ k := by
            rintro rfl
            have := hu.ahead j oj (by simpa using hj) hi
            rw [this] at hL; cases hL
          exact (setD_ne a d this).symm
    · refine hS'.perm ?_
      have h1 : (p.pl k d ++ (cs ++ rest)).Perm ((p.pl k d ++ rest) ++ cs) := by
        rw [List.append_assoc]
        exact List.Perm.append_left _ List.perm_append_comm
      exact h1.trans ((hlive d).symm.append_right cs)
  rcases h a σ w rest hσ (fun j oj hb hj => hA j oj hj (hu.did j hb)) (hS.perm hperm) with ⟨h1, h2⟩ | ⟨h1, d, h2, h3, h4⟩
  · refine .inl ⟨h1, comes_mono (fun v w' => ?_) h2⟩
    rintro ⟨d, rfl, hf, hS'⟩
    exact hnew d w' hf hS'
  · refine .inr ⟨h1, ?_⟩
    rw [h2]
    exact hnew d w h3 h4
theorem plan_steps {p : Plan D} {P : Program} {w0 : World} {cs : List Plot} {σ0 : Env} {ops : List Oper} (hB : planB p.con ops = true)
    (hF : ∀ (j : Nat) (oj : Oper) (a a' : Nat → D), ops[j]? = some oj → a j = a' j → (∀ i, bindsOn oj i = true → a i = a' i) → p.fact j a → p.fact j a') : ∀ (l : List Oper) (k : Nat), (∀ j o, l[j]? = some o → ops[k + j]? = some o) → p.Rules P w0 cs σ0 ops k l → StepsI P ops.toArray (p.S w0 cs σ0 ops) k l
  | [], _, _, _ => trivial
  | o :: l, k, hl, hr => ⟨plan_step hB hF (by simpa using hl 0 o rfl) hr.1, plan_steps hB hF l (k + 1) (fun j o' h => by rw [show k + 1 + j = k + (j + 1) from by omega]; exact hl (j + 1) o' (by simpa using h)) hr.2⟩
/-- a region that draws, by a plan -/
theorem wcplan {P : Program} [hm : Mix P] {n : Nat} {ds : Ctx} {Q : Exit → Ctx → Env → World → Prop} {σ : Env} {w w0 : World} {id : Nat} {ops : List Oper} {cs : List Plot} (p : Plan D) (d0 : D) (hS : Sep w0 w cs)
    (hF : ∀ (j : Nat) (oj : Oper) (a a' : Nat → D), ops[j]? = some oj → a j = a' j → (∀ i, bindsOn oj i = true → a i = a' i) → p.fact j a → p.fact j a')
    (hR : p.Rules P w0 cs σ ops 0 ops)
    (hend : ∀ (a : Nat → D) σ' w', (∀ s, (∀ (k : Nat) (o : Oper), ops[k]? = some o → o.dst ≠ some s) → σ' s = σ s) → (∀ (k : Nat) (o : Oper), ops[k]? = some o → (∀ d, o.dst = some d → σ' d = p.val k (a k)) ∧ p.fact k a) →
      Sep w0 w' (((List.range ops.length).filter fun j => (p.con j).isNone).flatMap (fun j => p.pl j (a j)) ++ cs) → Q .normal ds σ' w')
    (hB : planB p.con ops = true := by kernel_rfl) (hf : fwdB ops.toArray = true := by kernel_rfl) (hro : ds.ro = none := by rfl) : WC P n ds (.region id ops.toArray true) Q σ w := by
  refine wcdrawi (p.S w0 cs σ ops) (fun wd hwd => ⟨fun _ _ => rfl, fun _ => d0, fun _ _ _ h => absurd h Bool.false_ne_true, ?_⟩) (plan_steps hB hF ops 0 (fun j o h => by rwa [Nat.zero_add]) hR) ?_ hf hro
  · have e : p.mem ops.length (fun _ => false) (fun _ => d0) = [] := by
      unfold Plan.mem
      rw [List.filter_eq_nil_iff.2 (by intro j _; simp [Plan.live])]
      rfl
    rw [e]
    exact hS.grow hwd
  · rintro L σ' w' hL ⟨hσ, a, hA, hS'⟩
    refine hend a σ' w' hσ (fun k o hk => hA k o hk (hL k (List.getElem?_eq_some_iff.1 hk).1)) ?_
    refine hS'.perm (List.Perm.append_right _ (List.Perm.of_eq ?_))
    unfold Plan.mem
    congr 1
    refine List.filter_congr fun j hj => ?_
    have h1 := hL j (List.mem_range.1 hj)
    simp only [Plan.live, h1, Bool.true_and]
    cases hc : p.con j with
    | none => rfl
    | some c =>
      have := List.all_eq_true.1 hB j hj
      rw [Bool.and_eq_true, hc] at this
      have h2 := this.1
      simp only [Bool.and_eq_true, decide_eq_true_eq] at h2
      simp [hL c h2.1]
end
end Go.Sv
namespace Go.Sv
open Go Go.RowKit
theorem frameOf {σ : Env} (sl : List (Nat × Value)) (h : Has σ sl) : σ = real (updGL (lif σ) sl) := by rw [← real_updL, updL_has h]
theorem notDst {ops : List Oper} {s : Nat} (h : (ops.all fun o => decide (o.dst ≠ some s)) = true) : ∀ (k : Nat) (o : Oper), ops[k]? = some o → o.dst ≠ some s := fun k o hk =>
  of_decide_eq_true (List.all_eq_true.1 h o (List.mem_of_getElem? hk))
section
variable {D : Type} {P : Program} {w0 w w' : World} {cs rest : List Plot} {σ : Env} {d : Option Tmp} {op : Op} {ty : TypeId} {pos : String} {af : Array Edge} {v : Value} {k : Nat} {ops : Array Oper} {T : Value → World → Prop}
/-- an operation of a plan, that has no guard -/
theorem rule_y {B : Prop} {o : Oper} (hy : Y P σ o w v w') (hT : T v w') (hg : o.guard = none := by rfl) :
    (Region.wanted o (yl ops σ) = true ∧ comes P T ((execOp (evl σ) o).run P w)) ∨ B := .inl ⟨by simp [Region.wanted, hg], comes_of_Y hy hT⟩
theorem rule_call {B : Prop} {f : FuncId} [hf : Fnc P f] {args : List Operand} {ats : Array TypeId} {vals : List Value} {R : Value → World → Prop} (hc : CallsR P f vals.toArray w R) (hT : ∀ v w', R v w' → T v w') (ha : args.map (evl σ) = vals) :
    (Region.wanted (⟨d, .call ⟨.value (.func f), args.toArray, ats⟩, ty, pos, af, none⟩ : Oper) (yl ops σ) = true ∧ comes P T ((execOp (evl σ) ⟨d, .call ⟨.value (.func f), args.toArray, ats⟩, ty, pos, af, none⟩).run P w)) ∨ B := by
  refine .inl ⟨by simp [Region.wanted], ?_⟩
  rw [run_call_func]
  have : (args.toArray.map (evl σ)) = vals.toArray := by rw [← ha]; simp
  rw [this]
  exact Calls.mono hc fun e w'' ⟨v, he, hv⟩ => ⟨v, he, hT v w'' hv⟩
variable {t t' e e' : TypeId} {x y : Operand} {zv u : Value} {size bytes i m n c c' : Nat} {p q : Option Addr} {xs news vs : List Value}
/-- a slice written out, of one struct: its piece -/
theorem y_bs1 [hu : Und P t (.slice e)] [hi : Inf P e zv size bytes] (hS : Sep w0 w cs) (hx : evl σ x = .agg ⟨vs⟩) (hv : vs.length = size) (hz : zv.cells.size = size) (hsz : 0 < size) (hm : size ≤ 16777216) :
    ∃ b w', Y P σ ⟨d, .buildSlice t 1 #[(0, x)], ty, pos, af, none⟩ w (.slice (pb b) 1 1) w' ∧ Sep w0 w' (pOwn b vs :: cs) := by
  refine ⟨w.heap.size, w.alloc (.cells ⟨vs⟩ e), Y.val ?_, hS.push (frm_alloc _ _) (own_alloc _ _ _) (by simp [pOwn])⟩
  simp only [execOp, List.map_toArray, List.map_cons, List.map_nil, hx, Sem.run_bind]
  rw [run_buildSlice1 (P := P) (t := t) (e := e) hz (by simpa [Value.cells] using hv) hsz hm]
  rfl
/-- append to the i-th piece -/
theorem y_app [hu : Und P t (.slice e)] [hu' : Und P t' (.slice e')] [hi : Inf P e zv size bytes] (hS : Sep w0 w cs) (i : Nat) (hs : Sg w q news) (hc : cs[i]? = some (pRow size p m c xs)) (hx : evl σ x = .slice p m c) (hy : evl σ y = .slice q n c') (hl : news.length = n * size)
    (h1 : ∀ u ∈ news, u.oneCell' = true) (hz : zv.cells.size = size) (hsz : 0 < size) (hb : (m + n) * bytes ≤ 140737488355328 ∧ m + n ≤ 9223372036854775807) :
    ∃ p' c2 w', Y P σ ⟨d, .call ⟨.builtin .append, #[x, y], #[t, t']⟩, ty, pos, af, none⟩ w (.slice p' (m + n) c2) w' ∧ Sep w0 w' (cs.set i (pRow size p' (m + n) c2 (xs ++ news))) := by
  obtain ⟨p', c2, w', h2, h3, h4⟩ := run_append_row (P := P) (t := t) (tx := t') (ty := ty) (e := e) hz hsz (hS.row i hc) (src_of_sg (tx := t') (c := c') hs hl h1) hb.2 hb.1
  exact ⟨p', c2, w', run_append_op hx hy h2, hS.upd i hc h4 h3⟩
end
end Go.Sv

/-
  Package event: Equal, Count, Text.
-/
set_option linter.unusedSimpArgs false
set_option linter.unusedVariables false
set_option linter.unnecessarySimpa false
namespace Go.Sv
open Go Go.RowKit
section
variable {P : Program} {w : World}
theorem run_partI {t : TypeId} {k : IntKind} (hu : P.underlying t = some (.int k)) {cs : Array Value} {off : Nat} {v : Value} (hv : cs[off]? = some v) : (part t cs off).run P w = .ok v w := by
  have hi : (isAgg t).run P w = .ok false w := by
    simp only [isAgg, underlying, Sem.run_bind, run_program, Result.andThen_ok, hu, Sem.run_pure]
  simp [part, hi, hv]
theorem run_eqA4 {t el : TypeId} {k : IntKind} {a b c e a' b' c' e' : Int} (hu : P.underlying t = some (.array 4 el)) (he : P.underlying el = some (.int k)) (hs : (sizeOf el).run P w = .ok 1 w) (d : Nat) :
    (Op.equalIn (d + 2) t (.agg #[.int k a, .int k b, .int k c, .int k e]) (.agg #[.int k a', .int k b', .int k c', .int k e'])).run P w = .ok (decide (a = a' ∧ b = b' ∧ c = c' ∧ e = e')) w := by
  have h1 : ∀ x y : Int, (x == y) = decide (x = y) := fun x y => by by_cases e : x = y <;> simp [e]
  have hq : ∀ x y : Int, (Op.equalIn (d + 1) el (.int k x) (.int k y)).run P w = .ok (decide (x = y)) w := fun x y => by rw [run_equalIn_int w _ _ _ _ _ _ he, h1]
  unfold Op.equalIn
  simp only [Sem.run_bind, run_underlying hu, Result.andThen_ok, hs]
  rw [Std.Legacy.Range.forIn_eq_forIn_range']
  simp only [Std.Legacy.Range.size, Nat.sub_zero, Nat.reduceAdd, Nat.reduceSub, Nat.div_one, List.range'_succ, List.range'_zero, List.forIn_cons, List.forIn_nil, Sem.run_bind, Nat.mul_one]
  have p0 : ∀ a b c e : Int, (part el #[Value.int k a, .int k b, .int k c, .int k e] 0).run P w = .ok (.int k a) w := fun _ _ _ _ => run_partI he rfl
  have p1 : ∀ a b c e : Int, (part el #[Value.int k a, .int k b, .int k c, .int k e] 1).run P w = .ok (.int k b) w := fun _ _ _ _ => run_partI he rfl
  have p2 : ∀ a b c e : Int, (part el #[Value.int k a, .int k b, .int k c, .int k e] 2).run P w = .ok (.int k c) w := fun _ _ _ _ => run_partI he rfl
  have p3 : ∀ a b c e : Int, (part el #[Value.int k a, .int k b, .int k c, .int k e] 3).run P w = .ok (.int k e) w := fun _ _ _ _ => run_partI he rfl
  by_cases e1 : a = a' <;> by_cases e2 : b = b' <;> by_cases e3 : c = c' <;> by_cases e4 : e = e' <;> simp [p0, p1, p2, p3, hq, e1, e2, e3, e4]
variable {σ : Env} {d : Option Tmp} {ty t t' el : TypeId} {pos : String} {af : Array Edge} {g : Option (Nat × Bool)} {x y : Operand} {zv : Value} {bytes : Nat}
/-- two arrays of four numbers -/
theorem y_eqA4 {k : IntKind} {a b c e a' b' c' e' : Int} [hu : Und P t (.array 4 el)] [he : Und P el (.int k)] [hi : Inf P el zv 1 bytes] (hg : P.eqGuardType P.depth t = false)
    (hx : evl σ x = .agg #[.int k a, .int k b, .int k c, .int k e]) (hy : evl σ y = .agg #[.int k a', .int k b', .int k c', .int k e']) :
    Y P σ ⟨d, .binOp .eql t x y t', ty, pos, af, g⟩ w (.bool (decide (a = a' ∧ b = b' ∧ c = c' ∧ e = e'))) w := by
  refine Y.val ?_
  simp only [execOp, hx, hy, Sem.run_bind, run_eqGuard_agg w .eql t x y _ _ hg, Result.andThen_ok, run_eql_struct]
  rw [show (10000 : Nat) = 9998 + 2 from rfl, run_eqA4 hu.ok he.ok (run_sizeOf (P := P) (t := el) w)]
  rfl
end
end Go.Sv
namespace Go.Proofs.YthgbpgjpnaanlaaDoor
open Go Go.Sv Go.RowKit

set_option maxHeartbeats 1000000 in
/-- two lists of attributes -/
theorem atEqual_ok (es fs : List At) (p q : Option Addr) (c cc : Nat) (h1 : es.length ≤ 1048577) (h2 : fs.length ≤ 1048577) (w : World) (hi : Im [] w p (es.flatMap At.cells)) (hj : Im [] w q (fs.flatMap At.cells)) :
    PureC Tryd.prog 63 #[.slice p es.length c, .slice q fs.length cc] w (.bool (decide (es = fs))) := by
  have hl1 := fm_len At.len es
  have hl2 := fm_len At.len fs
  refine enter (l := [.slice p es.length c, .slice q fs.length cc]) Tryd.func63 rfl Tryd.ntmps63 (by kernel_rfl) rfl ?_
  have hS := Sep.start w
  refine sgo ?_
  (show WC _ _ _ _ _ _ _; first | refine WC_dec rfl (fun hc => ?_) (fun hc => ?_) | refine WC_cond rfl (fun hc => ?_) (fun hc => ?_))
  · have hne : es ≠ fs := by
      intro h
      subst h
      simp at hc
    refine sgo ?_
    (first | refine fp1 (.inl rfl) rfl rfl ?_ | refine fp2 (.inl rfl) rfl rfl rfl ?_ | refine fp3 (.inl rfl) rfl rfl rfl rfl ?_ | refine fp0 (.inr rfl) rfl ?_ | refine fp0 (.inl rfl) rfl ?_ | refine fp1 (.inr rfl) rfl rfl ?_); refine ⟨?_, by (first | exact Frm.refl _ | assumption | exact Go.Sv.Sep.frm (by assumption) | (refine Frm.trans ?_ (by assumption); first | exact Frm.refl _ | assumption))⟩; (try simp only [realB, rv_true, Nat.reduceBEq, cond_true, cond_false, entG, real_lif, updGL])
    rw [decide_eq_false hne]
  · have hle : es.length = fs.length := by
      have : ¬ ((es.length : Int) ≠ fs.length) := hc
      omega
    clear hc
    refine sgo ?_
    refine wcloop (X := Nat) (fun i => [(0, .slice p es.length c), (1, .slice q fs.length cc), (12, int es.length), (13, int i)])
      (fun i wr => i ≤ es.length ∧ es.take i = fs.take i ∧ Frm w wr) (fun i => es.length - i) 0 ⟨rfl, rfl, rfl, rfl, trivial⟩ ⟨Nat.zero_le _, rfl, Frm.refl _⟩ ?_
    rintro i wr ρ ⟨hil, hpre, hfr⟩
    refine sgo ?_
    (show WC _ _ _ _ _ _ _; first | refine WC_dec rfl (fun hc => ?_) (fun hc => ?_) | refine WC_cond rfl (fun hc => ?_) (fun hc => ?_))
    · have hlt : i < es.length := by omega
      have hx : es[i]? = some es[i] := List.getElem?_eq_getElem hlt
      have hy : fs[i]? = some fs[i] := List.getElem?_eq_getElem (by omega)
      have hsx := att_at hx
      have hsy := att_at hy
      have hir := hi.frm hfr
      have hjr := hj.frm hfr
      have hpa : ∃ a, p = some a := hi.some (by omega)
      have hpb : ∃ a, q = some a := hj.some (by omega)
      have htx : es.take (i + 1) = es.take i ++ [es[i]] := by rw [List.take_add_one, hx]; rfl
      have hty : fs.take (i + 1) = fs.take i ++ [fs[i]] := by rw [List.take_add_one, hy]; rfl
      generalize es[i] = x at *
      generalize fs[i] = y at *
      clear hc
      refine sgo ?_
      refine wcdraw ?_
      refine qgo ?_
      rw [hsx, hsy]
      refine ql (v := .bool (!(decide (x.n = y.n) && (decide (x.v = y.v) && true)))) ?_ (YQ.ofY fun w _ => y_aneq rfl rfl rfl)
      refine QL_nil ?_
      intro w3 hf3
      have hfr3 := hfr.trans hf3
      obtain ⟨xn, xv⟩ := x
      obtain ⟨yn, yv⟩ := y
      refine sgo ?_
      (show WC _ _ _ _ _ _ _; first | refine WC_dec rfl (fun hc => ?_) (fun hc => ?_) | refine WC_cond rfl (fun hc => ?_) (fun hc => ?_))
      · have hne : es ≠ fs := by
          intro h
          subst h
          rw [hx] at hy
          injection hy with hy
          injection hy with e1 e2
          subst e1 e2
          simp at hc
        refine sgo ?_
        (first | refine fp1 (.inl rfl) rfl rfl ?_ | refine fp2 (.inl rfl) rfl rfl rfl ?_ | refine fp3 (.inl rfl) rfl rfl rfl rfl ?_ | refine fp0 (.inr rfl) rfl ?_ | refine fp0 (.inl rfl) rfl ?_ | refine fp1 (.inr rfl) rfl rfl ?_); refine ⟨?_, by (first | exact Frm.refl _ | assumption | exact Go.Sv.Sep.frm (by assumption) | (refine Frm.trans ?_ (by assumption); first | exact Frm.refl _ | assumption))⟩; (try simp only [realB, rv_true, Nat.reduceBEq, cond_true, cond_false, entG, real_lif, updGL])
        rw [decide_eq_false hne]
      · refine sgo ?_
        refine ⟨i + 1, ⟨rfl, rfl, rfl, rfl, trivial⟩, ⟨hlt, ?_, hfr3⟩, (by (try dsimp only); omega)⟩
        rw [htx, hty, hpre]
        simp at hc
        rw [hc.1, hc.2]
    · obtain rfl : i = es.length := by omega
      rw [List.take_length, hle, List.take_length] at hpre
      refine sgo ?_
      (first | refine fp1 (.inl rfl) rfl rfl ?_ | refine fp2 (.inl rfl) rfl rfl rfl ?_ | refine fp3 (.inl rfl) rfl rfl rfl rfl ?_ | refine fp0 (.inr rfl) rfl ?_ | refine fp0 (.inl rfl) rfl ?_ | refine fp1 (.inr rfl) rfl rfl ?_); refine ⟨?_, by (first | exact Frm.refl _ | assumption | exact Go.Sv.Sep.frm (by assumption) | (refine Frm.trans ?_ (by assumption); first | exact Frm.refl _ | assumption))⟩; (try simp only [realB, rv_true, Nat.reduceBEq, cond_true, cond_false, entG, real_lif, updGL])
      rw [hpre, decide_eq_true rfl]
set_option maxHeartbeats 1000000 in
theorem evEqual1_ok (a b : EvM) (ha : a.e.small) (hb : b.e.small) (w : World) (hi : Im [] w a.p (a.e.attrs.flatMap At.cells)) (hj : Im [] w b.p (b.e.attrs.flatMap At.cells)) :
    PureC Tryd.prog 62 #[.agg ⟨a.cells⟩, .agg ⟨b.cells⟩] w (.bool (decide (a.e = b.e))) := by
  obtain ⟨⟨ka, na, ta, es⟩, pa, ca⟩ := a
  obtain ⟨⟨kb, nb, tb, fs⟩, pb', cb⟩ := b
  have h1 := ha.attrs
  have h2 := hb.attrs
  dsimp only at hi hj h1 h2
  refine enter (l := [.agg ⟨EvM.cells ⟨⟨ka, na, ta, es⟩, pa, ca⟩⟩, .agg ⟨EvM.cells ⟨⟨kb, nb, tb, fs⟩, pb', cb⟩⟩]) Tryd.func62 rfl Tryd.ntmps62 (by kernel_rfl) rfl ?_
  have hS := Sep.start w
  refine WC_seq ?_
  refine WC_region ?_
  refine sbox (v := .agg ⟨EvM.cells ⟨⟨ka, na, ta, es⟩, pa, ca⟩⟩) hS fun b2 w1 hS => ?_
  replace hS : Sep w w1 [pOwn b2 [int ka, str na, str ta, .slice pa es.length ca]] := hS
  refine sbox (v := .agg ⟨EvM.cells ⟨⟨kb, nb, tb, fs⟩, pb', cb⟩⟩) hS fun b3 w2 hS => ?_
  replace hS : Sep w w2 [pOwn b3 [int kb, str nb, str tb, .slice pb' fs.length cb], pOwn b2 [int ka, str na, str ta, .slice pa es.length ca]] := hS
  refine sgo ?_
  refine wlcallgp (vals := [.slice pa es.length ca, .slice pb' fs.length cb]) (fun _ => atEqual_ok es fs pa pb' ca cb (by omega) (by omega) _ (hi.sep hS) (hj.sep hS)) fun w3 hf3 => ?_
  replace hS := hS.grow hf3
  refine sgo ?_
  (first | refine fp1 (.inl rfl) rfl rfl ?_ | refine fp2 (.inl rfl) rfl rfl rfl ?_ | refine fp3 (.inl rfl) rfl rfl rfl rfl ?_ | refine fp0 (.inr rfl) rfl ?_ | refine fp0 (.inl rfl) rfl ?_ | refine fp1 (.inr rfl) rfl rfl ?_); refine ⟨?_, by (first | exact Frm.refl _ | assumption | exact Go.Sv.Sep.frm (by assumption) | (refine Frm.trans ?_ (by assumption); first | exact Frm.refl _ | assumption))⟩; (try simp only [realB, rv_true, Nat.reduceBEq, cond_true, cond_false, entG, real_lif, updGL])
  have e : (⟨ka, na, ta, es⟩ : Ev) = ⟨kb, nb, tb, fs⟩ ↔ ((ka = kb ∧ na = nb) ∧ ta = tb) ∧ es = fs := by
    constructor
    · intro h; injection h with e1 e2 e3 e4; exact ⟨⟨⟨e1, e2⟩, e3⟩, e4⟩
    · rintro ⟨⟨⟨rfl, rfl⟩, rfl⟩, rfl⟩; rfl
  simp only [pkb_and, decide_eq_decide.2 e, Bool.decide_and]
set_option maxHeartbeats 1000000 in
theorem evEqualF_ok (ms ns : List EvM) (p q : Option Addr) (c cc : Nat) (h1 : ms.length ≤ 1048577) (h2 : ns.length ≤ 1048577) (hs : ∀ m ∈ ms, m.e.small) (hs2 : ∀ m ∈ ns, m.e.small) (w : World) (hE : Evs w p ms) (hF : Evs w q ns) :
    PureC Tryd.prog 61 #[.slice p ms.length c, .slice q ns.length cc, .func (.func 62) #[] #[]] w (.bool (decide (evs ms = evs ns))) := by
  refine enter (l := [.slice p ms.length c, .slice q ns.length cc, .func (.func 62) #[] #[]]) Tryd.func61 rfl Tryd.ntmps61 (by kernel_rfl) rfl ?_
  have hS := Sep.start w
  refine sgo ?_
  (show WC _ _ _ _ _ _ _; first | refine WC_dec rfl (fun hc => ?_) (fun hc => ?_) | refine WC_cond rfl (fun hc => ?_) (fun hc => ?_))
  · have hne : evs ms ≠ evs ns := by
      intro h
      have := congrArg List.length h
      rw [evs_len, evs_len] at this
      have hc' : ¬ ((ms.length : Int) = ns.length) := hc
      omega
    refine sgo ?_
    (first | refine fp1 (.inl rfl) rfl rfl ?_ | refine fp2 (.inl rfl) rfl rfl rfl ?_ | refine fp3 (.inl rfl) rfl rfl rfl rfl ?_ | refine fp0 (.inr rfl) rfl ?_ | refine fp0 (.inl rfl) rfl ?_ | refine fp1 (.inr rfl) rfl rfl ?_); refine ⟨?_, by (first | exact Frm.refl _ | assumption | exact Go.Sv.Sep.frm (by assumption) | (refine Frm.trans ?_ (by assumption); first | exact Frm.refl _ | assumption))⟩; (try simp only [realB, rv_true, Nat.reduceBEq, cond_true, cond_false, entG, real_lif, updGL])
    rw [decide_eq_false hne]
  have hle : ms.length = ns.length := by
    have : ¬ ((ms.length : Int) ≠ ns.length) := hc
    omega
  clear hc
  refine sgo ?_
  refine wcloop (X := Nat) (fun i => [(1, .slice q ns.length cc), (2, .func (.func 62) #[] #[]), (15, .slice p ms.length c), (16, int ms.length), (17, int i)])
    (fun i wr => i ≤ ms.length ∧ (evs ms).take i = (evs ns).take i ∧ Sep w wr []) (fun i => ms.length - i) 0 ⟨rfl, rfl, rfl, rfl, rfl, trivial⟩ ⟨Nat.zero_le _, rfl, hS⟩ ?_
  clear hS
  rintro i wr ρ ⟨hil, hpre, hS⟩
  have hEr := hE.frm hS.frm
  have hFr := hF.frm hS.frm
  refine sgo ?_
  (show WC _ _ _ _ _ _ _; first | refine WC_dec rfl (fun hc => ?_) (fun hc => ?_) | refine WC_cond rfl (fun hc => ?_) (fun hc => ?_))
  · have hlt : i < ms.length := by omega
    have hSg := hE.im.sg
    have hSh := hF.im.sg
    have hIm := hE.im
    have hIn := hF.im
    have hx : ms[i]? = some ms[i] := List.getElem?_eq_getElem hlt
    have hy : ns[i]? = some ns[i] := List.getElem?_eq_getElem (by omega)
    have hseg := fm_seg EvM.len ms hx
    have hseh := fm_seg EvM.len ns hy
    have hat := hE.each _ (List.getElem_mem hlt)
    have hau := hF.each _ (List.getElem_mem (show i < ns.length by omega))
    have hsm := hs _ (List.getElem_mem hlt)
    have hsn := hs2 _ (List.getElem_mem (show i < ns.length by omega))
    have hps : ∃ q, p = some q := hSg.some (by have := fm_len EvM.len ms; omega)
    have hqs : ∃ a, q = some a := hSh.some (by have := fm_len EvM.len ns; omega)
    have hfl := fm_len EvM.len ms
    have hfl2 := fm_len EvM.len ns
    have htx : (evs ms).take (i + 1) = (evs ms).take i ++ [ms[i].e] := by rw [List.take_add_one, evs_at hx]; rfl
    have hty : (evs ns).take (i + 1) = (evs ns).take i ++ [ns[i].e] := by rw [List.take_add_one, evs_at hy]; rfl
    generalize ms[i] = m at *
    generalize ns[i] = n at *
    clear hc
    obtain ⟨⟨ka, na, ta, es⟩, ap, ac⟩ := m
    obtain ⟨⟨kb, nb, tb, fs⟩, bp, bc⟩ := n
    refine sgo ?_
    rw [hseg]
    refine salloc hS fun b8 w1 hS => ?_
    refine sgo ?_
    refine ssta (vs := [int ka, str na, str ta, .slice ap es.length ac]) hS 0 fun w2 hS => ?_
    replace hS : Sep w w2 [pOwn b8 [int ka, str na, str ta, .slice ap es.length ac]] := hS
    refine sgo ?_
    rw [hseh]
    refine salloc hS fun b9 w3 hS => ?_
    refine sgo ?_
    refine ssta (vs := [int kb, str nb, str tb, .slice bp fs.length bc]) hS 0 fun w4 hS => ?_
    replace hS : Sep w w4 [pOwn b9 [int kb, str nb, str tb, .slice bp fs.length bc], pOwn b8 [int ka, str na, str ta, .slice ap es.length ac]] := hS
    refine sgo ?_
    refine wlcallv (f := 62) (first := []) (args := [.agg ⟨EvM.cells ⟨⟨ka, na, ta, es⟩, ap, ac⟩⟩, .agg ⟨EvM.cells ⟨⟨kb, nb, tb, fs⟩, bp, bc⟩⟩]) (cap := []) (evEqual1_ok ⟨⟨ka, na, ta, es⟩, ap, ac⟩ ⟨⟨kb, nb, tb, fs⟩, bp, bc⟩ hsm hsn w4 (hat.sep hS) (hau.sep hS)) ?_
    rintro _ w5 ⟨rfl, hf5⟩
    replace hS := hS.grow hf5
    refine sgo ?_
    (show WC _ _ _ _ _ _ _; first | refine WC_dec rfl (fun hc => ?_) (fun hc => ?_) | refine WC_cond rfl (fun hc => ?_) (fun hc => ?_))
    · have hne : evs ms ≠ evs ns := by
        intro h
        rw [h] at htx
        rw [htx] at hty
        have := List.append_cancel_left hty
        simp at this
        simp [this] at hc
      refine sgo ?_
      (first | refine fp1 (.inl rfl) rfl rfl ?_ | refine fp2 (.inl rfl) rfl rfl rfl ?_ | refine fp3 (.inl rfl) rfl rfl rfl rfl ?_ | refine fp0 (.inr rfl) rfl ?_ | refine fp0 (.inl rfl) rfl ?_ | refine fp1 (.inr rfl) rfl rfl ?_); refine ⟨?_, by (first | exact Frm.refl _ | assumption | exact Go.Sv.Sep.frm (by assumption) | (refine Frm.trans ?_ (by assumption); first | exact Frm.refl _ | assumption))⟩; (try simp only [realB, rv_true, Nat.reduceBEq, cond_true, cond_false, entG, real_lif, updGL])
      rw [decide_eq_false hne]
    · refine sgo ?_
      refine ⟨i + 1, ⟨rfl, rfl, rfl, rfl, rfl, trivial⟩, ⟨hlt, ?_, hS.tail.tail⟩, (by (try dsimp only); omega)⟩
      rw [htx, hty, hpre]
      simp at hc
      rw [hc.1, hc.2.1, hc.2.2.1, hc.2.2.2]
  · obtain rfl : i = ms.length := by omega
    refine sgo ?_
    (first | refine fp1 (.inl rfl) rfl rfl ?_ | refine fp2 (.inl rfl) rfl rfl rfl ?_ | refine fp3 (.inl rfl) rfl rfl rfl rfl ?_ | refine fp0 (.inr rfl) rfl ?_ | refine fp0 (.inl rfl) rfl ?_ | refine fp1 (.inr rfl) rfl rfl ?_); refine ⟨?_, by (first | exact Frm.refl _ | assumption | exact Go.Sv.Sep.frm (by assumption) | (refine Frm.trans ?_ (by assumption); first | exact Frm.refl _ | assumption))⟩; (try simp only [realB, rv_true, Nat.reduceBEq, cond_true, cond_false, entG, real_lif, updGL])
    rw [← evs_len ms, List.take_length, evs_len, hle, ← evs_len ns, List.take_length] at hpre
    rw [hpre, decide_eq_true rfl]
theorem eqEv_ok (ms ns : List EvM) (p q : Option Addr) (c cc : Nat) (h1 : ms.length ≤ 1048577) (h2 : ns.length ≤ 1048577) (hs : ∀ m ∈ ms, m.e.small) (hs2 : ∀ m ∈ ns, m.e.small) (w : World) (hE : Evs w p ms) (hF : Evs w q ns) :
    PureC Tryd.prog 35 #[.slice p ms.length c, .slice q ns.length cc] w (.bool (decide (evs ms = evs ns))) := by
  refine enter (l := [.slice p ms.length c, .slice q ns.length cc]) Tryd.func35 rfl Tryd.ntmps35 (by kernel_rfl) rfl ?_
  refine sgo ?_
  refine wlpure (evEqualF_ok ms ns p q c cc h1 h2 hs hs2 w hE hF) fun w1 hf1 => ?_
  refine sgo ?_
  (first | refine fp1 (.inl rfl) rfl rfl ?_ | refine fp2 (.inl rfl) rfl rfl rfl ?_ | refine fp3 (.inl rfl) rfl rfl rfl rfl ?_ | refine fp0 (.inr rfl) rfl ?_ | refine fp0 (.inl rfl) rfl ?_ | refine fp1 (.inr rfl) rfl rfl ?_); refine ⟨?_, by (first | exact Frm.refl _ | assumption | exact Go.Sv.Sep.frm (by assumption) | (refine Frm.trans ?_ (by assumption); first | exact Frm.refl _ | assumption))⟩; (try simp only [realB, rv_true, Nat.reduceBEq, cond_true, cond_false, entG, real_lif, updGL])
end Go.Proofs.YthgbpgjpnaanlaaDoor

/-
  Package event: Count, Text.
-/
set_option linter.unusedSimpArgs false
set_option linter.unusedVariables false
set_option linter.unnecessarySimpa false
namespace Go.Proofs.YthgbpgjpnaanlaaDoor
open Go Go.Sv Go.RowKit

def cntR (l : List Ev) (k : Int) : Nat := l.countP fun e => decide (e.kind = k)
theorem cnt_le (l : List Ev) (k : Int) : cntR l k ≤ l.length := List.countP_le_length
theorem cnt_snoc {l : List Ev} {i : Nat} {e : Ev} (h : l[i]? = some e) (k : Int) : cntR (l.take (i + 1)) k = cntR (l.take i) k + if e.kind = k then 1 else 0 := by
  unfold cntR
  rw [List.take_add_one, h, List.countP_append]
  by_cases hk : e.kind = k <;> simp [hk]
/-- how many of each kind -/
def cnts (l : List Ev) : List Value := [int (cntR l 0), int (cntR l 1), int (cntR l 2), int (cntR l 3)]
theorem cnts_snoc {l : List Ev} {i : Nat} {e : Ev} (h : l[i]? = some e) : cnts (l.take (i + 1)) = [int ((cntR (l.take i) 0 + if e.kind = 0 then 1 else 0 : Nat)), int ((cntR (l.take i) 1 + if e.kind = 1 then 1 else 0 : Nat)), int ((cntR (l.take i) 2 + if e.kind = 2 then 1 else 0 : Nat)), int ((cntR (l.take i) 3 + if e.kind = 3 then 1 else 0 : Nat))] := by
  simp only [cnts, cnt_snoc h]
set_option maxHeartbeats 2000000 in
theorem count_ok (ms : List EvM) (p : Option Addr) (c : Nat) (hn : ms.length ≤ 1048576) (w : World) (hE : Evs w p ms) :
    PureC Tryd.prog 30 #[.slice p ms.length c] w (.agg ⟨cnts (evs ms)⟩) := by
  refine enter (l := [.slice p ms.length c]) Tryd.func30 rfl Tryd.ntmps30 (by kernel_rfl) rfl ?_
  have hS := Sep.start w
  refine sgo ?_
  refine salloc hS fun b2 w2 hS => ?_
  refine sgo ?_
  refine salloc hS fun b3 w3 hS => ?_
  replace hS : Sep w w3 [pOwn b3 (cnts ((evs ms).take 0)), pOwn b2 [int 0, int 0, int 0, int 0]] := hS
  refine sgo ?_
  refine wcloop (X := Nat) (fun i => [(2, ptrAt (pb b2) 0), (3, ptrAt (pb b3) 0), (6, .slice p ms.length c), (7, int ms.length), (8, int i)])
    (fun i wr => i ≤ ms.length ∧ Sep w wr [pOwn b3 (cnts ((evs ms).take i)), pOwn b2 [int 0, int 0, int 0, int 0]]) (fun i => ms.length - i) 0 ⟨rfl, rfl, rfl, rfl, rfl, trivial⟩ ⟨Nat.zero_le _, hS⟩ ?_
  clear hS
  rintro i wr ρ ⟨hil, hS⟩
  refine sgo ?_
  (show WC _ _ _ _ _ _ _; first | refine WC_dec rfl (fun hc => ?_) (fun hc => ?_) | refine WC_cond rfl (fun hc => ?_) (fun hc => ?_))
  · have hlt : i < ms.length := by omega
    have hSg := (hE.frm hS.frm).im.sg
    have hx : ms[i]? = some ms[i] := List.getElem?_eq_getElem hlt
    have hseg := fm_seg EvM.len ms hx
    have hps : ∃ q, p = some q := hSg.some (by have := fm_len EvM.len ms; omega)
    have hfl := fm_len EvM.len ms
    have hsn := cnts_snoc (evs_at hx)
    have hl : ((evs ms).take i).length ≤ i := by rw [List.length_take]; omega
    have l0 := cnt_le ((evs ms).take i) 0
    have l1 := cnt_le ((evs ms).take i) 1
    have l2 := cnt_le ((evs ms).take i) 2
    have l3 := cnt_le ((evs ms).take i) 3
    generalize ms[i] = m at *
    replace hS : Sep w wr [pOwn b3 [int (cntR ((evs ms).take i) 0), int (cntR ((evs ms).take i) 1), int (cntR ((evs ms).take i) 2), int (cntR ((evs ms).take i) 3)], pOwn b2 [int 0, int 0, int 0, int 0]] := hS
    generalize cntR ((evs ms).take i) 0 = c0 at *
    generalize cntR ((evs ms).take i) 1 = c1 at *
    generalize cntR ((evs ms).take i) 2 = c2 at *
    generalize cntR ((evs ms).take i) 3 = c3 at *
    obtain ⟨⟨k, nm, tx, es⟩, mp, mc⟩ := m
    dsimp only at hsn
    clear hc
    refine sgo ?_
    rw [hseg]
    refine salloc hS fun b5 w5 hS => ?_
    refine sgo ?_
    refine ssta (vs := [int k, str nm, str tx, .slice mp es.length mc]) hS 0 fun w6 hS => ?_
    replace hS : Sep w w6 [pOwn b5 [int k, str nm, str tx, .slice mp es.length mc], pOwn b3 [int c0, int c1, int c2, int c3], pOwn b2 [int 0, int 0, int 0, int 0]] := hS
    by_cases hk : k = 0 ∨ k = 1 ∨ k = 2 ∨ k = 3
    · rcases hk with rfl | rfl | rfl | rfl
      · refine sgo ?_
        refine sst_int hS 1 (fun w7 hS => ?_)
        refine sgo ?_
        refine ⟨i + 1, ⟨rfl, rfl, rfl, rfl, rfl, trivial⟩, ⟨hlt, ?_⟩, (by (try dsimp only); omega)⟩
        rw [hsn]
        exact hS.tail
      · refine sgo ?_
        refine sst_int hS 1 (fun w7 hS => ?_)
        refine sgo ?_
        refine ⟨i + 1, ⟨rfl, rfl, rfl, rfl, rfl, trivial⟩, ⟨hlt, ?_⟩, (by (try dsimp only); omega)⟩
        rw [hsn]
        exact hS.tail
      · refine sgo ?_
        refine sst_int hS 1 (fun w7 hS => ?_)
        refine sgo ?_
        refine ⟨i + 1, ⟨rfl, rfl, rfl, rfl, rfl, trivial⟩, ⟨hlt, ?_⟩, (by (try dsimp only); omega)⟩
        rw [hsn]
        exact hS.tail
      · refine sgo ?_
        refine sst_int hS 1 (fun w7 hS => ?_)
        refine sgo ?_
        refine ⟨i + 1, ⟨rfl, rfl, rfl, rfl, rfl, trivial⟩, ⟨hlt, ?_⟩, (by (try dsimp only); omega)⟩
        rw [hsn]
        exact hS.tail
    · refine sgo ?_
      have hB : pkb (decide (0 ≤ k)) (decide (k < 4)) false = false := by
        rw [pkb_and, ← Bool.decide_and]
        exact decide_eq_false (by omega)
      refine wcno ?_ (ht := hB)
      refine sgo ?_
      refine ⟨i + 1, ⟨rfl, rfl, rfl, rfl, rfl, trivial⟩, ⟨hlt, ?_⟩, (by (try dsimp only); omega)⟩
      rw [hsn, if_neg (by omega), if_neg (by omega), if_neg (by omega), if_neg (by omega)]
      exact hS.tail
  · obtain rfl : i = ms.length := by omega
    rw [← evs_len, List.take_length] at hS
    replace hS : Sep w wr [pOwn b3 [int (cntR (evs ms) 0), int (cntR (evs ms) 1), int (cntR (evs ms) 2), int (cntR (evs ms) 3)], pOwn b2 [int 0, int 0, int 0, int 0]] := hS
    refine sgo ?_
    refine ssta (vs := [int (cntR (evs ms) 0), int (cntR (evs ms) 1), int (cntR (evs ms) 2), int (cntR (evs ms) 3)]) hS 1 fun w7 hS => ?_
    refine sgo ?_
    refine fpc (l := cnts (evs ms)) (.inl rfl) rfl rfl rfl (hS.own 1 rfl) ⟨?_, hS.frm⟩
    rfl
/-- all text in one -/
def etxt (e : Ev) : List UInt8 := if e.kind = 0 then mendR e.text else []
def textR (l : List Ev) : List UInt8 := l.flatMap etxt
theorem text_snoc {l : List Ev} {i : Nat} {e : Ev} (h : l[i]? = some e) : textR (l.take (i + 1)) = textR (l.take i) ++ etxt e := by
  unfold textR
  rw [List.take_add_one, h, List.flatMap_append]; simp
theorem etxt_len (e : Ev) : (etxt e).length ≤ 4 * e.wt := by
  unfold etxt Ev.wt
  split
  · have := mendR_len e.text; omega
  · simp
theorem text_len (l : List Ev) : (textR l).length ≤ 4 * (l.map Ev.wt).sum := len_flat etxt Ev.wt 4 l fun e _ => etxt_len e
theorem text_take (ms : List EvM) (i : Nat) : (textR ((evs ms).take i)).length ≤ 4 * evw ms := by
  have h1 := text_len ((evs ms).take i)
  have h2 := sum_take Ev.wt (evs ms) i
  have h3 : ((evs ms).map Ev.wt).sum = evw ms := by simp [evs, evw, Function.comp_def]
  omega
set_option maxHeartbeats 2000000 in
theorem evText_ok (ms : List EvM) (p : Option Addr) (c : Nat) (hw : evw ms ≤ 1048576) (w : World) (hE : Evs w p ms) :
    PureC Tryd.prog 36 #[.slice p ms.length c] w (str (textR (evs ms))) := by
  have hn : ms.length ≤ 1048576 := by
    have := sum_len (fun m : EvM => m.e.wt) ms (by intro m _; show 1 ≤ Ev.wt m.e; unfold Ev.wt; omega)
    unfold evw at hw; omega
  refine enter (l := [.slice p ms.length c]) Tryd.func36 rfl Tryd.ntmps36 (by kernel_rfl) rfl ?_
  refine sgo ?_
  refine wlallocT fun b w0 hbw ha0 hf0 => ?_
  have hB0 : Bld TB TY w0 b none [] := Bld.new ha0
  refine sgo ?_
  refine wcloop (X := Nat × Option Addr) (fun x => [(3, ptrAt (pb b) 0), (6, .slice p ms.length c), (7, int ms.length), (8, int x.1)])
    (fun x wr => x.1 ≤ ms.length ∧ Bld TB TY wr b x.2 (textR ((evs ms).take x.1)) ∧ Frm w wr ∧ ∀ k ∈ b :: rb x.2, w.heap.size ≤ k)
    (fun x => ms.length - x.1) (0, none) ⟨rfl, rfl, rfl, rfl, trivial⟩ ⟨by omega, hB0, hf0, by intro x hx; simp [rb] at hx; omega⟩ ?_
  clear hB0
  rintro ⟨i, q⟩ wr ρ ⟨hil, hBl, hfr, hq⟩
  dsimp only at hil hBl hq ⊢
  have hEr := hE.frm hfr
  have hlr := text_take ms i
  refine sgo ?_
  (show WC _ _ _ _ _ _ _; first | refine WC_dec rfl (fun hc => ?_) (fun hc => ?_) | refine WC_cond rfl (fun hc => ?_) (fun hc => ?_))
  · have hlt : i < ms.length := by omega
    have hSg := hEr.im.sg
    have hx : ms[i]? = some ms[i] := List.getElem?_eq_getElem hlt
    have hseg := fm_seg EvM.len ms hx
    have hls := text_snoc (evs_at hx)
    have hl2 := text_take ms (i + 1)
    have hwt : ms[i].e.wt ≤ 1048576 := Nat.le_trans (sum_mem (fun m : EvM => m.e.wt) ms (List.getElem_mem hlt)) hw
    have hps : ∃ q, p = some q := hSg.some (by have := fm_len EvM.len ms; omega)
    have hfl := fm_len EvM.len ms
    generalize ms[i] = m at *
    obtain ⟨⟨k, nm, tx, es⟩, mp, mc⟩ := m
    have htx : tx.length ≤ 1048576 := (Ev.small_of hwt).text
    clear hc
    refine sgo ?_
    refine wlalloc fun b2 w2 hb2 ho hf2 => ?_
    refine wlstorea0 (hv := by exact ⟨by rw [hseg]; rfl, rfl⟩) (h1 := by rw [hseg]; simp [EvM.cells, Ev.cells, Value.oneCell']) ho fun w3 ho3 hl3 => ?_
    rw [hseg] at ho3
    have hb2w : w.heap.size ≤ b2 := Nat.le_trans hfr.size hb2
    have hfr3 := (hfr.trans hf2).step hl3 (by simpa using hb2w)
    have hB3 := (hBl.frm hf2).le hl3 (by intro k hk hm; simp only [List.mem_singleton] at hm; subst hm; have := hBl.lt k hk; omega)
    simp only [EvM.cells, Ev.cells] at ho3
    clear hseg hSg ho
    refine sgo ?_
    (show WC _ _ _ _ _ _ _; first | refine WC_dec rfl (fun hc => ?_) (fun hc => ?_) | refine WC_cond rfl (fun hc => ?_) (fun hc => ?_))
    · replace hc : k = 0 := hc
      subst hc
      have hle : etxt ⟨0, nm, tx, es⟩ = mendR tx := rfl
      rw [hle] at hls
      refine sgo ?_
      refine wlpure (mend_ok tx (by omega) w3) fun w4 hf4 => ?_
      have hB4 := hB3.frm hf4
      have hfr4 := hfr3.trans hf4
      refine sgo ?_
      refine wlcall (writeString_ok b q _ (mendR tx) _ hB4 (by rw [hls] at hl2; rw [List.length_append] at hl2; omega)) ?_
      rintro v w5 ⟨rfl, q5, hB5, hl5⟩
      refine sgo ?_
      refine ⟨(i + 1, q5), ⟨rfl, rfl, rfl, rfl, trivial⟩, ⟨by dsimp only; omega, ?_, hfr4.step hl5.1 hq, hl5.fresh hfr4 hq⟩, by dsimp only; omega⟩
      dsimp only
      rw [hls]; exact hB5
    · replace hc : ¬ k = 0 := hc
      have hle : etxt ⟨k, nm, tx, es⟩ = [] := by unfold etxt; rw [if_neg hc]
      rw [hle, List.append_nil] at hls
      refine sgo ?_
      refine ⟨(i + 1, q), ⟨rfl, rfl, rfl, rfl, trivial⟩, ⟨by dsimp only; omega, ?_, hfr3, hq⟩, by dsimp only; omega⟩
      dsimp only
      rw [hls]; exact hB3
  · obtain rfl : i = ms.length := by omega
    rw [← evs_len, List.take_length] at hBl
    refine sgo ?_
    refine wlcall (string_ok w.heap.size b q _ _ hBl hq hfr.size) ?_
    rintro v w6 ⟨rfl, hf6⟩
    have hfr6 : Frm w w6 := Below.trans hfr hf6
    refine sgo ?_
    (first | refine fp1 (.inl rfl) rfl rfl ?_ | refine fp2 (.inl rfl) rfl rfl rfl ?_ | refine fp3 (.inl rfl) rfl rfl rfl rfl ?_ | refine fp0 (.inr rfl) rfl ?_ | refine fp0 (.inl rfl) rfl ?_ | refine fp1 (.inr rfl) rfl rfl ?_); refine ⟨?_, by (first | exact Frm.refl _ | assumption | exact Go.Sv.Sep.frm (by assumption) | (refine Frm.trans ?_ (by assumption); first | exact Frm.refl _ | assumption))⟩; (try simp only [realB, rv_true, Nat.reduceBEq, cond_true, cond_false, entG, real_lif, updGL])
end Go.Proofs.YthgbpgjpnaanlaaDoor

/-
  sievelaw18: EventChecks.
-/
set_option linter.unusedSimpArgs false
set_option linter.unusedVariables false
set_option linter.unnecessarySimpa false
namespace Go.Sv
open Go Go.RowKit
section
variable {D : Type} {P : Program} {w0 w w' : World} {cs rest : List Plot} {σ : Env} {d : Option Tmp} {dd dj : Nat} {op : Op} {ty : TypeId} {pos : String} {af : Array Edge} {v : Value} {k j : Nat} {want : Bool} {ops : Array Oper} {T : Value → World → Prop} {B : Prop}
theorem wanted_at {o : Oper} (hg : o.guard = some (j, want)) (hj : (ops[j]?).bind (·.dst) = some dj) (hv : σ dj = .bool want) : Region.wanted o (yl ops σ) = true := by
  unfold Region.wanted yl
  rw [hg]
  simp only [hj, hv]
  cases want <;> rfl
/-- an operation of a plan under a guard that holds -/
theorem rule_yg {o : Oper} (hy : Y P σ o w v w') (hT : T v w') (hv : σ dj = .bool want) (hg : o.guard = some (j, want) := by rfl) (hj : (ops[j]?).bind (·.dst) = some dj := by rfl) :
    (Region.wanted o (yl ops σ) = true ∧ comes P T ((execOp (evl σ) o).run P w)) ∨ B := .inl ⟨wanted_at hg hj hv, comes_of_Y hy hT⟩
theorem y_ev (sl : List (Nat × Value)) (hs : Has σ sl) {g : Option (Nat × Bool)} (he : ev1 (updGL (lif σ) sl) op = some ⟨v, true⟩) : Y P σ ⟨d, op, ty, pos, af, g⟩ w v w := by
  have hy : Y P (real (updGL (lif σ) sl)) ⟨d, op, ty, pos, af, g⟩ w v w := ev1_ok he rfl
  rw [← frameOf sl hs] at hy
  exact hy
/-- one that only looks at what is known -/
theorem rule_e (sl : List (Nat × Value)) (hs : Has σ sl) (hT : T v w) (he : ev1 (updGL (lif σ) sl) op = some ⟨v, true⟩ := by rfl) :
    (Region.wanted (⟨d, op, ty, pos, af, none⟩ : Oper) (yl ops σ) = true ∧ comes P T ((execOp (evl σ) ⟨d, op, ty, pos, af, none⟩).run P w)) ∨ B := rule_y (y_ev sl hs he) hT
theorem rule_eg (sl : List (Nat × Value)) (hs : Has σ sl) (hT : T v w) (hv : σ dj = .bool want) (he : ev1 (updGL (lif σ) sl) op = some ⟨v, true⟩ := by rfl) (hj : (ops[j]?).bind (·.dst) = some dj := by rfl) :
    (Region.wanted (⟨d, op, ty, pos, af, some (j, want)⟩ : Oper) (yl ops σ) = true ∧ comes P T ((execOp (evl σ) ⟨d, op, ty, pos, af, some (j, want)⟩).run P w)) ∨ B := rule_yg (y_ev sl hs he) hT hv rfl hj
theorem rule_callg {f : FuncId} [hf : Fnc P f] {args : List Operand} {ats : Array TypeId} {vals : List Value} {R : Value → World → Prop} (hc : CallsR P f vals.toArray w R) (hT : ∀ v w', R v w' → T v w') (ha : args.map (evl σ) = vals) (hv : σ dj = .bool want) (hj : (ops[j]?).bind (·.dst) = some dj := by rfl) :
    (Region.wanted (⟨d, .call ⟨.value (.func f), args.toArray, ats⟩, ty, pos, af, some (j, want)⟩ : Oper) (yl ops σ) = true ∧ comes P T ((execOp (evl σ) ⟨d, .call ⟨.value (.func f), args.toArray, ats⟩, ty, pos, af, some (j, want)⟩).run P w)) ∨ B := by
  refine .inl ⟨wanted_at rfl hj hv, ?_⟩
  rw [run_call_func]
  have : (args.toArray.map (evl σ)) = vals.toArray := by rw [← ha]; simp
  rw [this]
  exact Calls.mono hc fun e w'' ⟨v, he, hv⟩ => ⟨v, he, hT v w'' hv⟩
theorem rule_pureg {f : FuncId} [hf : Fnc P f] {args : List Operand} {ats : Array TypeId} {vals : List Value} (hc : PureC P f vals.toArray w v) (hT : ∀ w', Frm w w' → T v w') (ha : args.map (evl σ) = vals) (hv : σ dj = .bool want) (hj : (ops[j]?).bind (·.dst) = some dj := by rfl) :
    (Region.wanted (⟨d, .call ⟨.value (.func f), args.toArray, ats⟩, ty, pos, af, some (j, want)⟩ : Oper) (yl ops σ) = true ∧ comes P T ((execOp (evl σ) ⟨d, .call ⟨.value (.func f), args.toArray, ats⟩, ty, pos, af, some (j, want)⟩).run P w)) ∨ B :=
  rule_callg (R := fun u w' => u = v ∧ Frm w w') hc (fun _ w' h => h.1 ▸ hT w' h.2) ha hv hj
theorem rule_pure {f : FuncId} [hf : Fnc P f] {args : List Operand} {ats : Array TypeId} {vals : List Value} (hc : PureC P f vals.toArray w v) (hT : ∀ w', Frm w w' → T v w') (ha : args.map (evl σ) = vals) :
    (Region.wanted (⟨d, .call ⟨.value (.func f), args.toArray, ats⟩, ty, pos, af, none⟩ : Oper) (yl ops σ) = true ∧ comes P T ((execOp (evl σ) ⟨d, .call ⟨.value (.func f), args.toArray, ats⟩, ty, pos, af, none⟩).run P w)) ∨ B :=
  rule_call (R := fun u w' => u = v ∧ Frm w w') hc (fun _ w' h => h.1 ▸ hT w' h.2) ha
end
end Go.Sv
namespace Go.Proofs.YthgbpgjpnaanlaaDoor
open Go Go.Sv Go.RowKit

theorem mend18_ok (l : List UInt8) (hb : l.length ≤ 1073741824) (w : World) : PureC Tryd.prog 34 #[str l] w (str (mendR l)) := by
  refine enter (l := [str l]) Tryd.func34 rfl Tryd.ntmps34 (by kernel_rfl) rfl ?_
  refine sgo ?_
  refine wlpure (refMend_ok l hb w) fun w1 hf1 => ?_
  refine sgo ?_
  (first | refine fp1 (.inl rfl) rfl rfl ?_ | refine fp2 (.inl rfl) rfl rfl rfl ?_ | refine fp3 (.inl rfl) rfl rfl rfl rfl ?_ | refine fp0 (.inr rfl) rfl ?_ | refine fp0 (.inl rfl) rfl ?_ | refine fp1 (.inr rfl) rfl rfl ?_); refine ⟨?_, by (first | exact Frm.refl _ | assumption | exact Go.Sv.Sep.frm (by assumption) | (refine Frm.trans ?_ (by assumption); first | exact Frm.refl _ | assumption))⟩; (try simp only [realB, rv_true, Nat.reduceBEq, cond_true, cond_false, entG, real_lif, updGL])
structure CkD where
  q : Option Addr
  c : Nat
  ns : List EvM
def ckP (ms ns : List EvM) (p q : Option Addr) (c cc : Nat) : Plan CkD where
  val k d := match k with
    | 0 | 3 | 8 | 9 | 14 | 20 => .slice p ms.length c
    | 1 | 4 => .slice q ns.length cc
    | 2 | 5 => .bool (decide (evs ms = evs ns))
    | 10 => .slice d.q d.ns.length d.c
    | 15 | 16 => .agg ⟨cnts (evs ms)⟩
    | 21 | 22 => str (textR (evs ms))
    | _ => .bool true
  pl k d := match k with
    | 10 => [pRow 4 d.q d.ns.length d.c (d.ns.flatMap EvM.cells), pMany (d.ns.map EvM.row)]
    | _ => []
  con k := match k with
    | 10 => some 11
    | _ => none
  fact k a := match k with
    | 10 => evs (a 10).ns = evs ms
    | _ => True
set_option maxHeartbeats 4000000 in
theorem eventChecks_ok (ms ns : List EvM) (p q : Option Addr) (c cc : Nat) (hw : evw ms ≤ 1048576) (hw2 : evw ns ≤ 1048576) (w : World) (hA : Asc w) (hE : Evs w p ms) (hF : Evs w q ns) :
    PureC Tryd.prog 8 #[.slice p ms.length c, .slice q ns.length cc] w (.bool true) := by
  have hn : ms.length ≤ 1048576 := by
    have := sum_len (fun m : EvM => m.e.wt) ms (by intro m _; show 1 ≤ Ev.wt m.e; unfold Ev.wt; omega)
    unfold evw at hw; omega
  have hn2 : ns.length ≤ 1048576 := by
    have := sum_len (fun m : EvM => m.e.wt) ns (by intro m _; show 1 ≤ Ev.wt m.e; unfold Ev.wt; omega)
    unfold evw at hw2; omega
  have hs : ∀ m ∈ ms, m.e.small := fun m hm => Ev.small_of (Nat.le_trans (sum_mem (fun m : EvM => m.e.wt) ms hm) hw)
  have hs2 : ∀ m ∈ ns, m.e.small := fun m hm => Ev.small_of (Nat.le_trans (sum_mem (fun m : EvM => m.e.wt) ns hm) hw2)
  have hS := Sep.start w
  refine enter (l := [.slice p ms.length c, .slice q ns.length cc]) Tryd.func8 rfl Tryd.ntmps8 (by kernel_rfl) rfl ?_
  refine sgo ?_
  refine salloc hS fun b5 w1 hS => ?_
  replace hS : Sep w w1 [pOwn b5 (cnts ((evs ms).take 0))] := hS
  refine sgo ?_
  refine wcloop (X := Nat) (fun i => [(0, .slice p ms.length c), (1, .slice q ns.length cc), (5, ptrAt (pb b5) 0), (6, str (textR ((evs ms).take i))), (10, .slice p ms.length c), (11, int ms.length), (12, int i)])
    (fun i wr => i ≤ ms.length ∧ Sep w wr [pOwn b5 (cnts ((evs ms).take i))]) (fun i => ms.length - i) 0 ⟨rfl, rfl, rfl, rfl, rfl, rfl, rfl, trivial⟩ ⟨Nat.zero_le _, hS⟩ ?_
  clear hS
  rintro i wr ρ ⟨hil, hS⟩
  have hlr := text_take ms i
  refine sgo ?_
  (show WC _ _ _ _ _ _ _; first | refine WC_dec rfl (fun hc => ?_) (fun hc => ?_) | refine WC_cond rfl (fun hc => ?_) (fun hc => ?_))
  · have hlt : i < ms.length := by omega
    have hSg := (hE.frm hS.frm).im.sg
    have hx : ms[i]? = some ms[i] := List.getElem?_eq_getElem hlt
    have hseg := fm_seg EvM.len ms hx
    have hps : ∃ q, p = some q := hSg.some (by have := fm_len EvM.len ms; omega)
    have hfl := fm_len EvM.len ms
    have hat := hE.each _ (List.getElem_mem hlt)
    have hsm := hs _ (List.getElem_mem hlt)
    have hsn := cnts_snoc (evs_at hx)
    have hts := text_snoc (evs_at hx)
    have hl2 := text_take ms (i + 1)
    have hl : ((evs ms).take i).length ≤ i := by rw [List.length_take]; omega
    have l0 := cnt_le ((evs ms).take i) 0
    have l1 := cnt_le ((evs ms).take i) 1
    have l2 := cnt_le ((evs ms).take i) 2
    have l3 := cnt_le ((evs ms).take i) 3
    generalize ms[i] = m at *
    replace hS : Sep w wr [pOwn b5 [int (cntR ((evs ms).take i) 0), int (cntR ((evs ms).take i) 1), int (cntR ((evs ms).take i) 2), int (cntR ((evs ms).take i) 3)]] := hS
    generalize cntR ((evs ms).take i) 0 = c0 at *
    generalize cntR ((evs ms).take i) 1 = c1 at *
    generalize cntR ((evs ms).take i) 2 = c2 at *
    generalize cntR ((evs ms).take i) 3 = c3 at *
    generalize textR ((evs ms).take i) = S at *
    obtain ⟨⟨k, nm, tx, es⟩, mp, mc⟩ := m
    have htx : tx.length ≤ 1048576 := hsm.text
    dsimp only at hsn hts hat hsm
    clear hc
    refine sgo ?_
    rw [hseg]
    refine salloc hS fun b8 w5 hS => ?_
    refine sgo ?_
    refine ssta (vs := [int k, str nm, str tx, .slice mp es.length mc]) hS 0 fun w6 hS => ?_
    replace hS : Sep w w6 [pOwn b8 [int k, str nm, str tx, .slice mp es.length mc], pOwn b5 [int c0, int c1, int c2, int c3]] := hS
    refine sgo ?_
    refine wlpure (refEvCheck_ok ⟨k, nm, tx, es⟩ mp mc hsm w6 (hat.sep hS)) fun w7 hf7 => ?_
    replace hS := hS.grow hf7
    refine sgo ?_
    refine wcutt (X := Unit) (fun _ => [(0, .slice p ms.length c), (1, .slice q ns.length cc), (5, ptrAt (pb b5) 0), (6, str S), (8, ptrAt (pb b8) 0), (9, int (if evR ⟨k, nm, tx, es⟩ then 0 else 180)), (10, .slice p ms.length c), (11, int ms.length), (12, int i)])
      (fun _ w' => w' = w7) ?_ ?_
    · cases he : evR ⟨k, nm, tx, es⟩ with
      | false =>
        refine sgo ?_
        exact ⟨(), ⟨rfl, rfl, rfl, rfl, rfl, rfl, rfl, rfl, rfl, trivial⟩, rfl⟩
      | true =>
        refine sgo ?_
        exact ⟨(), ⟨rfl, rfl, rfl, rfl, rfl, rfl, rfl, rfl, rfl, trivial⟩, rfl⟩
    rintro _ w8 ρ2 rfl
    refine sgo ?_
    refine wlpure (evCheck_ok ⟨k, nm, tx, es⟩ mp mc hsm _ (hA.frm hS.frm) (hat.sep hS)) fun w9 hf9 => ?_
    replace hS := hS.grow hf9
    generalize (if evR ⟨k, nm, tx, es⟩ = true then (0 : Int) else 180) = C
    refine sgo ?_
    refine wlpure (num18_ok C _) fun w10 hf10 => ?_
    replace hS := hS.grow hf10
    refine sgo ?_
    refine wcno ?_ (ht := by simp)
    refine sgo ?_
    refine wcutt (X := Unit) (fun _ => [(0, .slice p ms.length c), (1, .slice q ns.length cc), (5, ptrAt (pb b5) 0), (6, str S), (8, ptrAt (pb b8) 0), (10, .slice p ms.length c), (11, int ms.length), (12, int i)])
      (fun _ w' => Sep w w' [pOwn b8 [int k, str nm, str tx, .slice mp es.length mc], pOwn b5 (cnts ((evs ms).take (i + 1)))]) ?_ ?_
    · rw [hsn]
      by_cases hk : k = 0 ∨ k = 1 ∨ k = 2 ∨ k = 3
      · rcases hk with rfl | rfl | rfl | rfl
        · refine sgo ?_
          refine sst_int hS 1 (fun w7 hS => ?_)
          refine sgo ?_
          exact ⟨(), ⟨rfl, rfl, rfl, rfl, rfl, rfl, rfl, rfl, trivial⟩, hS⟩
        · refine sgo ?_
          refine sst_int hS 1 (fun w7 hS => ?_)
          refine sgo ?_
          exact ⟨(), ⟨rfl, rfl, rfl, rfl, rfl, rfl, rfl, rfl, trivial⟩, hS⟩
        · refine sgo ?_
          refine sst_int hS 1 (fun w7 hS => ?_)
          refine sgo ?_
          exact ⟨(), ⟨rfl, rfl, rfl, rfl, rfl, rfl, rfl, rfl, trivial⟩, hS⟩
        · refine sgo ?_
          refine sst_int hS 1 (fun w7 hS => ?_)
          refine sgo ?_
          exact ⟨(), ⟨rfl, rfl, rfl, rfl, rfl, rfl, rfl, rfl, trivial⟩, hS⟩
      · refine sgo ?_
        have hB : pkb (decide (0 ≤ k)) (decide (k < 4)) false = false := by
          rw [pkb_and, ← Bool.decide_and]
          exact decide_eq_false (by omega)
        refine wcno ?_ (ht := hB)
        refine sgo ?_
        rw [if_neg (by omega), if_neg (by omega), if_neg (by omega), if_neg (by omega)]
        exact ⟨(), ⟨rfl, rfl, rfl, rfl, rfl, rfl, rfl, rfl, trivial⟩, hS⟩
    clear hS
    rintro _ w11 ρ3 hS
    refine sgo ?_
    (show WC _ _ _ _ _ _ _; first | refine WC_dec rfl (fun hc => ?_) (fun hc => ?_) | refine WC_cond rfl (fun hc => ?_) (fun hc => ?_))
    · replace hc : k = 0 := hc
      subst hc
      have hle : etxt ⟨0, nm, tx, es⟩ = mendR tx := rfl
      rw [hle] at hts
      rw [hts, List.length_append] at hl2
      refine sgo ?_
      refine wlpure (mend18_ok tx (by omega) _) fun w12 hf12 => ?_
      replace hS := hS.grow hf12
      refine sgo ?_
      refine ⟨i + 1, ⟨rfl, rfl, rfl, ?_, rfl, rfl, rfl, trivial⟩, ⟨hlt, hS.tail⟩, (by (try dsimp only); omega)⟩
      show str _ = str _
      rw [hts]
    · replace hc : ¬ k = 0 := hc
      have hle : etxt ⟨k, nm, tx, es⟩ = [] := by unfold etxt; rw [if_neg hc]
      rw [hle, List.append_nil] at hts
      refine sgo ?_
      refine ⟨i + 1, ⟨rfl, rfl, rfl, ?_, rfl, rfl, rfl, trivial⟩, ⟨hlt, hS.tail⟩, (by (try dsimp only); omega)⟩
      show str _ = str _
      rw [hts]
  · obtain rfl : i = ms.length := by omega
    rw [← evs_len, List.take_length] at hS
    have htk : (evs ms).take ms.length = evs ms := by rw [← evs_len, List.take_length]
    rw [htk]
    refine sgo ?_
    refine wcplan (ckP ms ns p q c cc) ⟨none, 0, []⟩ hS (fun j oj a a' hj he _ h => ?_) ⟨?_, ?_, ?_, ?_, ?_, ?_, ?_, ?_, ?_, ?_, ?_, ?_, ?_, ?_, ?_, ?_, ?_, ?_, ?_, ?_, ?_, ?_, ?_, ?_, ?_, ?_, ?_, ?_, ?_, trivial⟩ ?_
    · have hjl : j < 29 := (List.getElem?_eq_some_iff.1 hj).1
      by_cases e10 : j = 10
      · subst e10; exact (show evs (a' 10).ns = evs ms by rw [← he]; exact h)
      · have : (ckP ms ns p q c cc).fact j a' = True := by
          simp only [ckP]
        exact this ▸ True.intro
    · intro a σ' w' rest hσ hdep hS'
      have e0 : σ' 0 = .slice p ms.length c := (hσ 0 (notDst rfl)).trans rfl
      exact rule_e [(0, _)] ⟨e0, trivial⟩ ⟨⟨none, 0, []⟩, rfl, trivial, hS'⟩
    · intro a σ' w' rest hσ hdep hS'
      have e1 : σ' 1 = .slice q ns.length cc := (hσ 1 (notDst rfl)).trans rfl
      exact rule_e [(1, _)] ⟨e1, trivial⟩ ⟨⟨none, 0, []⟩, rfl, trivial, hS'⟩
    · intro a σ' w' rest hσ hdep hS'
      have e47 := ((hdep 0 _ rfl rfl).1 47 rfl)
      have e48 := ((hdep 1 _ rfl rfl).1 48 rfl)
      exact rule_pure (eqEv_ok ms ns p q c cc (by omega) (by omega) hs hs2 w' (hE.frm hS'.frm) (hF.frm hS'.frm)) (fun w2 hf2 => ⟨⟨none, 0, []⟩, rfl, trivial, hS'.grow hf2⟩) (am2 e47 e48)
    · intro a σ' w' rest hσ hdep hS'
      have e0 : σ' 0 = .slice p ms.length c := (hσ 0 (notDst rfl)).trans rfl
      exact rule_e [(0, _)] ⟨e0, trivial⟩ ⟨⟨none, 0, []⟩, rfl, trivial, hS'⟩
    · intro a σ' w' rest hσ hdep hS'
      have e1 : σ' 1 = .slice q ns.length cc := (hσ 1 (notDst rfl)).trans rfl
      exact rule_e [(1, _)] ⟨e1, trivial⟩ ⟨⟨none, 0, []⟩, rfl, trivial, hS'⟩
    · intro a σ' w' rest hσ hdep hS'
      have e50 := ((hdep 3 _ rfl rfl).1 50 rfl)
      have e51 := ((hdep 4 _ rfl rfl).1 51 rfl)
      exact rule_pure (evEqual_ok ms ns p q c cc (by omega) (by omega) hs hs2 w' (hE.frm hS'.frm) (hF.frm hS'.frm)) (fun w2 hf2 => ⟨⟨none, 0, []⟩, rfl, trivial, hS'.grow hf2⟩) (am2 e50 e51)
    · intro a σ' w' rest hσ hdep hS'
      have e49 := ((hdep 2 _ rfl rfl).1 49 rfl)
      have e52 := ((hdep 5 _ rfl rfl).1 52 rfl)
      refine rule_y (y_beql (u := decide (evs ms = evs ns)) (v := decide (evs ms = evs ns)) e49 e52) ⟨⟨none, 0, []⟩, ?_, trivial, hS'⟩
      show Value.bool _ = Value.bool true
      simp
    · intro a σ' w' rest hσ hdep hS'
      have e53 := ((hdep 6 _ rfl rfl).1 53 rfl)
      exact rule_e [(53, _)] ⟨e53, trivial⟩ ⟨⟨none, 0, []⟩, rfl, trivial, hS'⟩
    · intro a σ' w' rest hσ hdep hS'
      have e0 : σ' 0 = .slice p ms.length c := (hσ 0 (notDst rfl)).trans rfl
      have eg := ((hdep 7 _ rfl rfl).1 54 rfl)
      exact rule_eg [(0, _)] ⟨e0, trivial⟩ ⟨⟨none, 0, []⟩, rfl, trivial, hS'⟩ eg
    · intro a σ' w' rest hσ hdep hS'
      have e0 : σ' 0 = .slice p ms.length c := (hσ 0 (notDst rfl)).trans rfl
      have eg := ((hdep 7 _ rfl rfl).1 54 rfl)
      exact rule_eg [(0, _)] ⟨e0, trivial⟩ ⟨⟨none, 0, []⟩, rfl, trivial, hS'⟩ eg
    · intro a σ' w' rest hσ hdep hS'
      have e56 := ((hdep 9 _ rfl rfl).1 56 rfl)
      have eg := ((hdep 7 _ rfl rfl).1 54 rfl)
      refine rule_callg (vals := [.slice p ms.length c]) (evOwn_ok ms p c (by omega) hs w w' _ hS' (hE.frm hS'.frm)) (fun v w2 hR => ?_) (am1 e56) eg
      obtain ⟨q3, c3, ns3, rfl, hev3, -, hS2⟩ := hR
      exact ⟨⟨q3, c3, ns3⟩, rfl, hev3, hS2⟩
    · intro a σ' w' rest hσ hdep hS'
      have e55 := ((hdep 8 _ rfl rfl).1 55 rfl)
      have e57 := ((hdep 10 _ rfl rfl).1 57 rfl)
      have eg := ((hdep 7 _ rfl rfl).1 54 rfl)
      have hev : evs (a 10).ns = evs ms := (hdep 10 _ rfl rfl).2
      have hl : (a 10).ns.length = ms.length := by rw [← evs_len, hev, evs_len]
      have hS1 : Sep w w' (pRow 4 (a 10).q (a 10).ns.length (a 10).c ((a 10).ns.flatMap EvM.cells) :: pMany ((a 10).ns.map EvM.row) :: (_ ++ rest)) := hS'
      have hsn : ∀ m ∈ (a 10).ns, m.e.small := fun m hm => by
        have h1 : m.e ∈ evs ms := hev ▸ List.mem_map_of_mem hm
        obtain ⟨m2, hm2, e⟩ := List.mem_map.1 h1
        exact e ▸ hs m2 hm2
      refine rule_pureg (eqEv_ok ms (a 10).ns p (a 10).q c (a 10).c (by omega) (by omega) hs hsn w' (hE.frm hS'.frm) (Sep.evs hS1 0 1 rfl rfl)) (fun w2 hf2 => ⟨⟨none, 0, []⟩, ?_, trivial, (hS1.grow hf2).tail.tail⟩) (am2 e55 e57) eg
      show Value.bool _ = Value.bool true
      rw [decide_eq_true hev.symm]
    · intro a σ' w' rest hσ hdep hS'
      have e54 := ((hdep 7 _ rfl rfl).1 54 rfl)
      have e58 := ((hdep 11 _ rfl rfl).1 58 rfl)
      exact rule_e [(54, _), (58, _)] ⟨e54, e58, trivial⟩ ⟨⟨none, 0, []⟩, rfl, trivial, hS'⟩ (he := rfl)
    · intro a σ' w' rest hσ hdep hS'
      have e59 := ((hdep 12 _ rfl rfl).1 59 rfl)
      exact rule_e [(59, _)] ⟨e59, trivial⟩ ⟨⟨none, 0, []⟩, rfl, trivial, hS'⟩
    · intro a σ' w' rest hσ hdep hS'
      have e0 : σ' 0 = .slice p ms.length c := (hσ 0 (notDst rfl)).trans rfl
      have eg := ((hdep 13 _ rfl rfl).1 60 rfl)
      exact rule_eg [(0, _)] ⟨e0, trivial⟩ ⟨⟨none, 0, []⟩, rfl, trivial, hS'⟩ eg
    · intro a σ' w' rest hσ hdep hS'
      have e61 := ((hdep 14 _ rfl rfl).1 61 rfl)
      have eg := ((hdep 13 _ rfl rfl).1 60 rfl)
      exact rule_pureg (count_ok ms p c (by omega) w' (hE.frm hS'.frm)) (fun w2 hf2 => ⟨⟨none, 0, []⟩, rfl, trivial, hS'.grow hf2⟩) (am1 e61) eg
    · intro a σ' w' rest hσ hdep hS'
      have e5 : σ' 5 = ptrAt (pb b5) 0 := (hσ 5 (notDst rfl)).trans rfl
      have eg := ((hdep 13 _ rfl rfl).1 60 rfl)
      exact rule_yg (y_loada e5 (Sep.sgv hS' 0 rfl) (Nat.le_refl 4) ⟨_, rfl⟩) ⟨⟨none, 0, []⟩, rfl, trivial, hS'⟩ eg
    · intro a σ' w' rest hσ hdep hS'
      have e62 := ((hdep 15 _ rfl rfl).1 62 rfl)
      have e63 := ((hdep 16 _ rfl rfl).1 63 rfl)
      have eg := ((hdep 13 _ rfl rfl).1 60 rfl)
      refine rule_yg (y_eqA4 (by kernel_rfl) e62 e63) ⟨⟨none, 0, []⟩, ?_, trivial, hS'⟩ eg
      show Value.bool _ = Value.bool true
      simp
    · intro a σ' w' rest hσ hdep hS'
      have e60 := ((hdep 13 _ rfl rfl).1 60 rfl)
      have e64 := ((hdep 17 _ rfl rfl).1 64 rfl)
      exact rule_e [(60, _), (64, _)] ⟨e60, e64, trivial⟩ ⟨⟨none, 0, []⟩, rfl, trivial, hS'⟩ (he := rfl)
    · intro a σ' w' rest hσ hdep hS'
      have e65 := ((hdep 18 _ rfl rfl).1 65 rfl)
      exact rule_e [(65, _)] ⟨e65, trivial⟩ ⟨⟨none, 0, []⟩, rfl, trivial, hS'⟩
    · intro a σ' w' rest hσ hdep hS'
      have e0 : σ' 0 = .slice p ms.length c := (hσ 0 (notDst rfl)).trans rfl
      have eg := ((hdep 19 _ rfl rfl).1 66 rfl)
      exact rule_eg [(0, _)] ⟨e0, trivial⟩ ⟨⟨none, 0, []⟩, rfl, trivial, hS'⟩ eg
    · intro a σ' w' rest hσ hdep hS'
      have e67 := ((hdep 20 _ rfl rfl).1 67 rfl)
      have eg := ((hdep 19 _ rfl rfl).1 66 rfl)
      exact rule_pureg (evText_ok ms p c hw w' (hE.frm hS'.frm)) (fun w2 hf2 => ⟨⟨none, 0, []⟩, rfl, trivial, hS'.grow hf2⟩) (am1 e67) eg
    · intro a σ' w' rest hσ hdep hS'
      have e6 : σ' 6 = str (textR (evs ms)) := (hσ 6 (notDst rfl)).trans rfl
      have eg := ((hdep 19 _ rfl rfl).1 66 rfl)
      exact rule_eg [(6, _)] ⟨e6, trivial⟩ ⟨⟨none, 0, []⟩, rfl, trivial, hS'⟩ eg
    · intro a σ' w' rest hσ hdep hS'
      have e68 := ((hdep 21 _ rfl rfl).1 68 rfl)
      have e69 := ((hdep 22 _ rfl rfl).1 69 rfl)
      have eg := ((hdep 19 _ rfl rfl).1 66 rfl)
      exact rule_eg [(68, _), (69, _)] ⟨e68, e69, trivial⟩ ⟨⟨none, 0, []⟩, rfl, trivial, hS'⟩ eg (he := (show ev1 _ _ = some ⟨.bool (decide (textR (evs ms) = textR (evs ms))), true⟩ from rfl).trans (by rw [decide_eq_true (rfl : textR (evs ms) = textR (evs ms))]; rfl))
    · intro a σ' w' rest hσ hdep hS'
      have e66 := ((hdep 19 _ rfl rfl).1 66 rfl)
      have e70 := ((hdep 23 _ rfl rfl).1 70 rfl)
      exact rule_e [(66, _), (70, _)] ⟨e66, e70, trivial⟩ ⟨⟨none, 0, []⟩, rfl, trivial, hS'⟩ (he := rfl)
    · intro a σ' w' rest hσ hdep hS'
      have e71 := ((hdep 24 _ rfl rfl).1 71 rfl)
      exact rule_e [(71, _)] ⟨e71, trivial⟩ ⟨⟨none, 0, []⟩, rfl, trivial, hS'⟩
    · intro a σ' w' rest hσ hdep hS'
      have eg := ((hdep 25 _ rfl rfl).1 72 rfl)
      exact rule_pureg (awake18_ok w' (hA.frm hS'.frm)) (fun w2 hf2 => ⟨⟨none, 0, []⟩, rfl, trivial, hS'.grow hf2⟩) (rfl) eg
    · intro a σ' w' rest hσ hdep hS'
      have e72 := ((hdep 25 _ rfl rfl).1 72 rfl)
      have e73 := ((hdep 26 _ rfl rfl).1 73 rfl)
      exact rule_e [(72, _), (73, _)] ⟨e72, e73, trivial⟩ ⟨⟨none, 0, []⟩, rfl, trivial, hS'⟩ (he := rfl)
    · intro a σ' w' rest hσ hdep hS'
      have e74 := ((hdep 27 _ rfl rfl).1 74 rfl)
      exact rule_e [(74, _)] ⟨e74, trivial⟩ ⟨⟨none, 0, []⟩, rfl, trivial, hS'⟩
    · intro a σ' w' hσ hA' hS'
      have e4 := (hA' 28 _ rfl).1 4 rfl
      rw [frameOf (σ := σ') [(4, .bool true)] ⟨e4, trivial⟩]
      replace hS : Sep w w' [pOwn b5 (cnts (evs ms))] := hS'
      refine sgo ?_
      (first | refine fp1 (.inl rfl) rfl rfl ?_ | refine fp2 (.inl rfl) rfl rfl rfl ?_ | refine fp3 (.inl rfl) rfl rfl rfl rfl ?_ | refine fp0 (.inr rfl) rfl ?_ | refine fp0 (.inl rfl) rfl ?_ | refine fp1 (.inr rfl) rfl rfl ?_); refine ⟨?_, by (first | exact Frm.refl _ | assumption | exact Go.Sv.Sep.frm (by assumption) | (refine Frm.trans ?_ (by assumption); first | exact Frm.refl _ | assumption))⟩; (try simp only [realB, rv_true, Nat.reduceBEq, cond_true, cond_false, entG, real_lif, updGL])
end Go.Proofs.YthgbpgjpnaanlaaDoor

/-
  Package event: Trim; sieveref18: Trim.
-/
set_option linter.unusedSimpArgs false
set_option linter.unusedVariables false
set_option linter.unnecessarySimpa false
namespace Go.Sv
open Go Go.RowKit
/-- a cut behind a piece of code that stands in a block -/
theorem wcutb {P : Program} {n i : Nat} {ds : Ctx} {K : Ctx → Env → World → Prop} {Q : Exit → Ctx → Env → World → Prop} {σ : Env} {w : World} {a : Code} {X : Type} (sl : X → List (Nat × Value)) (I : X → World → Prop)
    (ha : WC P n ds a (blk i (thl ds (fun σ w => ∃ x, Has σ (sl x) ∧ I x w) Q)) σ w) (hb : ∀ x w (ρ : GE), I x w → K ds (real (updGL ρ (sl x))) w) : WC P n ds a (blk i (thn K Q)) σ w := by
  refine WC_mono ha ?_
  have hn : ∀ c' σ' w', thl ds (fun σ w => ∃ x, Has σ (sl x) ∧ I x w) Q .normal c' σ' w' → thn K Q .normal c' σ' w' := by
    intro c' σ' w' h
    unfold thl at h
    unfold thn
    obtain ⟨rfl, x, h1, h2⟩ := h
    have := hb x w' (lif σ') h2
    rw [← real_updL, updL_has h1] at this
    exact this
  intro e c' σ' w' h
  unfold blk at h ⊢
  cases e with
  | normal => exact hn _ _ _ h
  | exit j =>
    dsimp only at h ⊢
    cases hj : Nat.beq j i with
    | true => rw [hj] at h; exact hn _ _ _ h
    | false => rw [hj] at h; unfold thl at h; unfold thn; exact h
  | _ => unfold thl at h; unfold thn; exact h
end Go.Sv
namespace Go.Proofs.YthgbpgjpnaanlaaDoor
open Go Go.Sv Go.RowKit

def opnE (e : Ev) (o : Int) : Int := if e.kind = 1 then o + 1 else if e.kind = 2 then o - 1 else o
def arndE (e : Ev) (o : Int) : Int := if e.kind = 2 then o - 1 else o
/-- does an event stay? -/
def keepE (d o : Int) (e : Ev) : Bool := if e.kind = 0 then decide (arndE e o ≤ d) else decide (arndE e o < d)
def trM (d : Int) (ms : List EvM) : Int × List EvM := ms.foldl (fun s m => (opnE m.e s.1, if keepE d s.1 m.e then s.2 ++ [m] else s.2)) (0, [])
def trI (d : Int) (ms : List EvM) (i : Nat) : Int × List EvM := trM d (ms.take i)
theorem trI_succ {d : Int} {ms : List EvM} {i : Nat} {m : EvM} (h : ms[i]? = some m) : trI d ms (i + 1) = (opnE m.e (trI d ms i).1, if keepE d (trI d ms i).1 m.e then (trI d ms i).2 ++ [m] else (trI d ms i).2) := by
  unfold trI trM
  rw [List.take_add_one, h, List.foldl_append]; rfl
theorem trI_all (d : Int) (ms : List EvM) : trI d ms ms.length = trM d ms := by unfold trI; rw [List.take_length]
theorem opnE_b (e : Ev) (o : Int) : o - 1 ≤ opnE e o ∧ opnE e o ≤ o + 1 := by
  unfold opnE
  split
  · omega
  · split <;> omega
theorem tr_bnd (d : Int) (ms : List EvM) (i : Nat) (hi : i ≤ ms.length) : -(i : Int) ≤ (trI d ms i).1 ∧ (trI d ms i).1 ≤ i ∧ (trI d ms i).2.length ≤ i ∧ ∀ m ∈ (trI d ms i).2, m ∈ ms := by
  induction i with
  | zero => exact ⟨Int.le_refl _, Int.le_refl _, Nat.le_refl _, fun m hm => by cases hm⟩
  | succ i ih =>
    have ih := ih (by omega)
    have hx : ms[i]? = some ms[i] := List.getElem?_eq_getElem (by omega)
    rw [trI_succ hx]
    have hb := opnE_b ms[i].e (trI d ms i).1
    refine ⟨by dsimp only; omega, by dsimp only; omega, ?_, ?_⟩
    · dsimp only
      split
      · rw [List.length_append]; have := ih.2.2.1; simp; omega
      · have := ih.2.2.1; omega
    · intro m hm
      dsimp only at hm
      split at hm
      · rcases List.mem_append.1 hm with h | h
        · exact ih.2.2.2 m h
        · rw [List.mem_singleton.1 h]; exact List.getElem_mem _
      · exact ih.2.2.2 m hm
theorem tr_evs (d : Int) (ms : List EvM) (i : Nat) {ns : List EvM} {m : EvM} (hx : ms[i]? = some m) (h : evs ns = evs (trI d ms i).2) {n : EvM} (hn : n.e = m.e) :
    evs (if keepE d (trI d ms i).1 m.e then ns ++ [n] else ns) = evs (trI d ms (i + 1)).2 := by
  rw [trI_succ hx]
  dsimp only
  split
  · rw [evs_snoc, evs_snoc, h, hn]
  · exact h
def trimC (d : Int) (k : Lk) : Int := if d < 0 then 1 else k.err
set_option maxHeartbeats 4000000 in
theorem trim_ok (d : Int) (ms : List EvM) (p : Option Addr) (c : Nat) (hn : ms.length ≤ 1048576) (hs : ∀ m ∈ ms, m.e.small) (w0 w : World) (cs : List Plot) (hS0 : Sep w0 w cs) (hA : Asc w) (hE : Evs w p ms) :
    CallsR Tryd.prog 37 #[int d, .slice p ms.length c] w fun v w' => ∃ q cc ns, v = .tuple #[.slice q ns.length cc, int (trimC d (lkR (evs ms)))] ∧ evs ns = (if trimC d (lkR (evs ms)) = 0 then evs (trM d ms).2 else []) ∧ Frm w w' ∧ Sep w0 w' (pRow 4 q ns.length cc (ns.flatMap EvM.cells) :: pMany (ns.map EvM.row) :: cs) := by
  have hS := Sep.start w
  have hnil : ∀ (k : Int), k ≠ 0 → trimC d (lkR (evs ms)) = k → ∀ w1, Frm w w1 → ∃ q cc ns, (Value.tuple #[.slice none 0 0, int k]) = .tuple #[.slice q (List.length ns) cc, int (trimC d (lkR (evs ms)))] ∧ evs ns = (if trimC d (lkR (evs ms)) = 0 then evs (trM d ms).2 else []) ∧ Frm w w1 ∧ Sep w0 w1 (pRow 4 q ns.length cc (ns.flatMap EvM.cells) :: pMany (ns.map EvM.row) :: cs) := by
    intro k h0 h1 w1 hf1
    refine ⟨none, 0, [], by rw [h1]; rfl, by rw [h1, if_neg h0]; rfl, hf1, ?_⟩
    exact ((hS0.grow hf1).zero).push (Frm.refl w1) (Row.nil w1 4) (by simp [pRow, rb])
  refine enter (l := [int d, .slice p ms.length c]) Tryd.func37 rfl Tryd.ntmps37 (by kernel_rfl) rfl ?_
  refine sgo ?_
  (show WC _ _ _ _ _ _ _; first | refine WC_dec rfl (fun hc => ?_) (fun hc => ?_) | refine WC_cond rfl (fun hc => ?_) (fun hc => ?_))
  · refine sgo ?_
    (first | refine fp1 (.inl rfl) rfl rfl ?_ | refine fp2 (.inl rfl) rfl rfl rfl ?_ | refine fp3 (.inl rfl) rfl rfl rfl rfl ?_ | refine fp0 (.inr rfl) rfl ?_ | refine fp0 (.inl rfl) rfl ?_ | refine fp1 (.inr rfl) rfl rfl ?_)
    exact hnil 1 (by decide) (if_pos hc) _ (Frm.refl _)
  have hd : ¬ d < 0 := hc
  clear hc
  have hC : trimC d (lkR (evs ms)) = (lkR (evs ms)).err := if_neg hd
  refine sgo ?_
  refine wlpure (nested_ok ms p c hn hs w hA hE) fun w1 hf1 => ?_
  replace hS := hS.grow hf1
  refine sgo ?_
  by_cases hr : (lkR (evs ms)).err = 0
  · refine wcno ?_ (ht := by simpa using hr)
    replace hS := ((hS.zero).push (c := pRow 4 none 0 0 []) (Frm.refl _) (Row.nil _ 4) (by simp [pRow, rb]))
    refine sgo ?_
    refine wcloop (X := Nat × Option Addr × Nat × List EvM) (fun x => [(0, int d), (8, .slice x.2.1 x.2.2.2.length x.2.2.1), (9, int (trI d ms x.1).1), (23, .slice p ms.length c), (24, int ms.length), (25, int x.1)])
      (fun x wr => x.1 ≤ ms.length ∧ evs x.2.2.2 = evs (trI d ms x.1).2 ∧ Sep w wr [pRow 4 x.2.1 x.2.2.2.length x.2.2.1 (x.2.2.2.flatMap EvM.cells), pMany (x.2.2.2.map EvM.row)])
      (fun x => ms.length - x.1) (0, none, 0, []) ⟨rfl, rfl, rfl, rfl, rfl, rfl, trivial⟩ ⟨Nat.zero_le _, rfl, hS⟩ ?_
    clear hS
    rintro ⟨i, q, cc, ns⟩ wr ρ ⟨hil, hev, hS⟩
    dsimp only at *
    have hb := tr_bnd d ms i hil
    have hnl : ns.length ≤ i := by rw [← evs_len, hev, evs_len]; exact hb.2.2.1
    obtain ⟨hb1, hb2, -, -⟩ := hb
    refine sgo ?_
    (show WC _ _ _ _ _ _ _; first | refine WC_dec rfl (fun hc => ?_) (fun hc => ?_) | refine WC_cond rfl (fun hc => ?_) (fun hc => ?_))
    · have hlt : i < ms.length := by omega
      have hIm := hE.im
      have hx : ms[i]? = some ms[i] := List.getElem?_eq_getElem hlt
      have hmem : ms[i] ∈ ms := List.getElem_mem hlt
      have hseg := fm_seg EvM.len ms hx
      have hfl := fm_len EvM.len ms
      have hat := hE.each _ hmem
      have hsm := hs _ hmem
      have hps : ∃ a, p = some a := hE.im.sg.some (by omega)
      have hte := tr_evs d ms i hx hev (n := ms[i]) rfl
      have hte2 : ∀ n : EvM, n.e = ms[i].e → _ := fun n h => tr_evs d ms i hx hev h
      have hop : (trI d ms (i + 1)).1 = opnE ms[i].e (trI d ms i).1 := by rw [trI_succ hx]
      generalize ms[i] = m at *
      generalize (trI d ms i).1 = o at *
      clear hc hte
      obtain ⟨⟨k, nm, tx, es⟩, mp, mc⟩ := m
      dsimp only at hat hsm hte2 hop
      refine sgo ?_
      rw [hseg]
      refine salloc hS fun b11 w5 hS => ?_
      refine sgo ?_
      refine ssta (vs := [int k, str nm, str tx, .slice mp es.length mc]) hS 0 fun w6 hS => ?_
      replace hS : Sep w w6 [pOwn b11 [int k, str nm, str tx, .slice mp es.length mc], pRow 4 q ns.length cc (ns.flatMap EvM.cells), pMany (ns.map EvM.row)] := hS
      refine sgo ?_
      refine wcutb (X := Unit) (fun _ => [(0, int d), (8, .slice q ns.length cc), (9, int (opnE ⟨k, nm, tx, es⟩ o)), (11, ptrAt (pb b11) 0), (12, int (arndE ⟨k, nm, tx, es⟩ o)), (23, .slice p ms.length c), (24, int ms.length), (25, int i)])
        (fun _ w' => w' = w6) ?_ ?_
      · by_cases h1 : k = 1
        · subst h1
          refine sgo ?_
          exact ⟨(), ⟨rfl, rfl, rfl, rfl, rfl, rfl, rfl, rfl, trivial⟩, rfl⟩
        · have e1 : opnE ⟨k, nm, tx, es⟩ o = if k = 2 then o - 1 else o := if_neg h1
          rw [e1]
          refine sgo ?_
          refine wcno ?_ (ht := decide_eq_false h1)
          by_cases h2 : k = 2
          · subst h2
            refine sgo ?_
            exact ⟨(), ⟨rfl, rfl, rfl, rfl, rfl, rfl, rfl, rfl, trivial⟩, rfl⟩
          · have e2 : arndE ⟨k, nm, tx, es⟩ o = o := if_neg h2
            rw [e2, if_neg h2]
            refine sgo ?_
            refine wcno ?_ (ht := decide_eq_false h2)
            refine sgo ?_
            exact ⟨(), ⟨rfl, rfl, rfl, rfl, rfl, rfl, rfl, rfl, trivial⟩, rfl⟩
      rintro _ w7 ρ2 rfl
      have hkp : keepE d o ⟨k, nm, tx, es⟩ = if k = 0 then decide (arndE ⟨k, nm, tx, es⟩ o ≤ d) else decide (arndE ⟨k, nm, tx, es⟩ o < d) := rfl
      generalize arndE ⟨k, nm, tx, es⟩ o = a at *
      generalize opnE ⟨k, nm, tx, es⟩ o = o' at *
      refine sgo ?_
      have hB : pkb (decide (a < d)) true (pkb (decide (k = 0)) (decide (a = d)) false) = keepE d o ⟨k, nm, tx, es⟩ := by
        rw [hkp]
        by_cases h0 : k = 0
        · rw [if_pos h0]; simp only [h0, pkb_or, pkb_and, decide_true, Bool.true_and]
          rw [← Bool.decide_or]; exact decide_eq_decide.2 (by omega)
        · rw [if_neg h0]; simp [h0, pkb_or, pkb_and]
      rw [hB]
      cases hke : keepE d o ⟨k, nm, tx, es⟩ with
      | true =>
        refine sgo ?_
        refine wlcall (evCopied_ok ⟨k, nm, tx, es⟩ mp mc hsm w _ _ hS (hat.sep hS)) ?_
        rintro _ w8 ⟨q2, c2, rfl, -, hS⟩
        refine sgo ?_
        refine sb1a (vs := EvM.cells ⟨⟨k, nm, tx, es⟩, q2, c2⟩) hS fun b12 w12 hS => ?_
        refine sgo ?_
        refine sapp hS 3 (hS.own 0 rfl).sg (fun q4 c4 w13 hS => ?_) (h1 := ev_one _ _ _)
        rw [evs_flat] at hS
        refine sgo ?_
        have h1 := (hS.drop 0 rfl).drop 1 rfl
        have h2 := (((h1.front 2 rfl).front 1 rfl).more).front 1 rfl
        have h3 := hte2 ⟨⟨k, nm, tx, es⟩, q2, c2⟩ rfl
        rw [if_pos hke] at h3
        refine ⟨(i + 1, q4, c4, ns ++ [⟨⟨k, nm, tx, es⟩, q2, c2⟩]), ⟨rfl, ?_, ?_, rfl, rfl, rfl, trivial⟩, ⟨hlt, h3, ?_⟩, (by (try dsimp only); omega)⟩
        · dsimp only; rw [List.length_append]; rfl
        · dsimp only; rw [hop]; rfl
        · dsimp only; rw [List.length_append, List.map_append]; exact h2
      | false =>
        refine sgo ?_
        have h3 := hte2 ⟨⟨k, nm, tx, es⟩, mp, mc⟩ rfl
        rw [if_neg (by rw [hke]; decide)] at h3
        refine ⟨(i + 1, q, cc, ns), ⟨rfl, rfl, ?_, rfl, rfl, rfl, trivial⟩, ⟨hlt, h3, hS.tail⟩, (by (try dsimp only); omega)⟩
        dsimp only; rw [hop]; rfl
    · obtain rfl : i = ms.length := by omega
      rw [trI_all] at hev
      refine sgo ?_
      (first | refine fp1 (.inl rfl) rfl rfl ?_ | refine fp2 (.inl rfl) rfl rfl rfl ?_ | refine fp3 (.inl rfl) rfl rfl rfl rfl ?_ | refine fp0 (.inr rfl) rfl ?_ | refine fp0 (.inl rfl) rfl ?_ | refine fp1 (.inr rfl) rfl rfl ?_)
      refine ⟨q, cc, ns, by rw [hC, hr]; rfl, by rw [hC, if_pos hr]; exact hev, hS.frm, hS0.seq (ds := [_, _]) hS⟩
  · refine wcyes ?_ (ht := by simpa using hr)
    refine sgo ?_
    (first | refine fp1 (.inl rfl) rfl rfl ?_ | refine fp2 (.inl rfl) rfl rfl rfl ?_ | refine fp3 (.inl rfl) rfl rfl rfl rfl ?_ | refine fp0 (.inr rfl) rfl ?_ | refine fp0 (.inl rfl) rfl ?_ | refine fp1 (.inr rfl) rfl rfl ?_)
    exact hnil _ hr hC _ hS.frm
set_option maxHeartbeats 4000000 in
theorem refTrim_ok (d : Int) (ms : List EvM) (p : Option Addr) (c : Nat) (hn : ms.length ≤ 1048576) (w0 w : World) (cs : List Plot) (hS0 : Sep w0 w cs) (hE : Evs w p ms) :
    CallsR Tryd.prog 40 #[int d, .slice p ms.length c] w fun v w' => ∃ q cc, v = .slice q (trM d ms).2.length cc ∧ Frm w w' ∧ Sep w0 w' (pRow 4 q (trM d ms).2.length cc ((trM d ms).2.flatMap EvM.cells) :: cs) := by
  have hS := Sep.start w
  refine enter (l := [int d, .slice p ms.length c]) Tryd.func40 rfl Tryd.ntmps40 (by kernel_rfl) rfl ?_
  replace hS := ((hS).push (c := pRow 4 none 0 0 []) (Frm.refl _) (Row.nil _ 4) (by simp [pRow, rb]))
  refine sgo ?_
  refine wcloop (X := Nat × Option Addr × Nat) (fun x => [(0, int d), (5, .slice x.2.1 (trI d ms x.1).2.length x.2.2), (6, int (trI d ms x.1).1), (10, .slice p ms.length c), (11, int ms.length), (12, int x.1)])
    (fun x wr => x.1 ≤ ms.length ∧ Sep w wr [pRow 4 x.2.1 (trI d ms x.1).2.length x.2.2 ((trI d ms x.1).2.flatMap EvM.cells)])
    (fun x => ms.length - x.1) (0, none, 0) ⟨rfl, rfl, rfl, rfl, rfl, rfl, trivial⟩ ⟨Nat.zero_le _, hS⟩ ?_
  clear hS
  rintro ⟨i, q, cc⟩ wr ρ ⟨hil, hS⟩
  dsimp only at *
  have hb := tr_bnd d ms i hil
  obtain ⟨hb1, hb2, hb3, -⟩ := hb
  refine sgo ?_
  (show WC _ _ _ _ _ _ _; first | refine WC_dec rfl (fun hc => ?_) (fun hc => ?_) | refine WC_cond rfl (fun hc => ?_) (fun hc => ?_))
  · have hlt : i < ms.length := by omega
    have hIm := hE.im
    have hx : ms[i]? = some ms[i] := List.getElem?_eq_getElem hlt
    have hseg := fm_seg EvM.len ms hx
    have hfl := fm_len EvM.len ms
    have hps : ∃ a, p = some a := hE.im.sg.some (by omega)
    have hop := trI_succ (d := d) hx
    generalize ms[i] = m at *
    generalize trI d ms i = tt at *
    obtain ⟨o, ns⟩ := tt
    clear hc
    obtain ⟨⟨k, nm, tx, es⟩, mp, mc⟩ := m
    dsimp only at hop hS hb1 hb2 hb3 ⊢
    refine sgo ?_
    rw [hseg]
    refine salloc hS fun b8 w5 hS => ?_
    refine sgo ?_
    refine ssta (vs := [int k, str nm, str tx, .slice mp es.length mc]) hS 0 fun w6 hS => ?_
    replace hS : Sep w w6 [pOwn b8 [int k, str nm, str tx, .slice mp es.length mc], pRow 4 q ns.length cc (ns.flatMap EvM.cells)] := hS
    refine sgo ?_
    refine wcutt (X := Unit) (fun _ => [(0, int d), (5, .slice q ns.length cc), (6, int (arndE ⟨k, nm, tx, es⟩ o)), (8, ptrAt (pb b8) 0), (10, .slice p ms.length c), (11, int ms.length), (12, int i)])
      (fun _ w' => w' = w6) ?_ ?_
    · (show WC _ _ _ _ _ _ _; first | refine WC_dec rfl (fun hc => ?_) (fun hc => ?_) | refine WC_cond rfl (fun hc => ?_) (fun hc => ?_))
      · replace hc : k = 2 := hc
        subst hc
        refine sgo ?_
        exact ⟨(), ⟨rfl, rfl, rfl, rfl, rfl, rfl, rfl, trivial⟩, rfl⟩
      · have e2 : arndE ⟨k, nm, tx, es⟩ o = o := if_neg hc
        rw [e2]
        refine sgo ?_
        exact ⟨(), ⟨rfl, rfl, rfl, rfl, rfl, rfl, rfl, trivial⟩, rfl⟩
    rintro _ w7 ρ2 rfl
    have hkp : keepE d o ⟨k, nm, tx, es⟩ = if k = 0 then decide (arndE ⟨k, nm, tx, es⟩ o ≤ d) else decide (arndE ⟨k, nm, tx, es⟩ o < d) := rfl
    have hopn : opnE ⟨k, nm, tx, es⟩ o = if k = 1 then arndE ⟨k, nm, tx, es⟩ o + 1 else arndE ⟨k, nm, tx, es⟩ o := by
      unfold opnE arndE
      dsimp only
      by_cases h1 : k = 1
      · subst h1; rfl
      · rw [if_neg h1, if_neg h1]
    have hab : -1048577 ≤ arndE ⟨k, nm, tx, es⟩ o ∧ arndE ⟨k, nm, tx, es⟩ o ≤ 1048577 := by
      unfold arndE; split <;> omega
    generalize arndE ⟨k, nm, tx, es⟩ o = a at *
    refine sgo ?_
    refine wcutt (X := Unit) (fun _ => [(0, int d), (5, .slice q ns.length cc), (6, int a), (8, ptrAt (pb b8) 0), (9, .bool (keepE d o ⟨k, nm, tx, es⟩)), (10, .slice p ms.length c), (11, int ms.length), (12, int i)])
      (fun _ w' => w' = w7) ?_ ?_
    · rw [hkp]
      (show WC _ _ _ _ _ _ _; first | refine WC_dec rfl (fun hc => ?_) (fun hc => ?_) | refine WC_cond rfl (fun hc => ?_) (fun hc => ?_))
      · replace hc : k = 0 := hc
        subst hc
        refine sgo ?_
        exact ⟨(), ⟨rfl, rfl, rfl, rfl, rfl, rfl, rfl, rfl, trivial⟩, rfl⟩
      · rw [if_neg hc]
        refine sgo ?_
        exact ⟨(), ⟨rfl, rfl, rfl, rfl, rfl, rfl, rfl, rfl, trivial⟩, rfl⟩
    rintro _ w8 ρ3 rfl
    refine sgo ?_
    refine wcutt (X := Option Addr × Nat) (fun x => [(0, int d), (5, .slice x.1 (trI d ms (i + 1)).2.length x.2), (6, int a), (8, ptrAt (pb b8) 0), (10, .slice p ms.length c), (11, int ms.length), (12, int i)])
      (fun x w' => Sep w w' [pOwn b8 [int k, str nm, str tx, .slice mp es.length mc], pRow 4 x.1 (trI d ms (i + 1)).2.length x.2 ((trI d ms (i + 1)).2.flatMap EvM.cells)]) ?_ ?_
    · rw [hop]
      dsimp only
      cases hke : keepE d o ⟨k, nm, tx, es⟩ with
      | true =>
        rw [if_pos rfl, List.length_append]
        refine sgo ?_
        refine sb1a (vs := EvM.cells ⟨⟨k, nm, tx, es⟩, mp, mc⟩) hS fun b12 w12 hS => ?_
        refine sgo ?_
        refine sapp hS 2 (hS.own 0 rfl).sg (fun q4 c4 w13 hS => ?_) (h1 := ev_one _ _ _)
        rw [evs_flat] at hS
        refine sgo ?_
        exact ⟨(q4, c4), ⟨rfl, rfl, rfl, rfl, rfl, rfl, rfl, trivial⟩, hS.tail⟩
      | false =>
        rw [if_neg (by decide)]
        refine sgo ?_
        exact ⟨(q, cc), ⟨rfl, rfl, rfl, rfl, rfl, rfl, rfl, trivial⟩, hS⟩
    clear hS
    rintro ⟨q5, c5⟩ w9 ρ4 hS
    dsimp only at *
    have ho1 : (trI d ms (i + 1)).1 = opnE ⟨k, nm, tx, es⟩ o := by rw [hop]
    rw [hopn] at ho1
    refine sgo ?_
    (show WC _ _ _ _ _ _ _; first | refine WC_dec rfl (fun hc => ?_) (fun hc => ?_) | refine WC_cond rfl (fun hc => ?_) (fun hc => ?_))
    · replace hc : k = 1 := hc
      subst hc
      rw [if_pos rfl] at ho1
      refine sgo ?_
      refine ⟨(i + 1, q5, c5), ⟨rfl, rfl, ?_, rfl, rfl, rfl, trivial⟩, ⟨hlt, hS.tail⟩, (by (try dsimp only); omega)⟩
      dsimp only; rw [ho1]; rfl
    · rw [if_neg hc] at ho1
      refine sgo ?_
      refine ⟨(i + 1, q5, c5), ⟨rfl, rfl, ?_, rfl, rfl, rfl, trivial⟩, ⟨hlt, hS.tail⟩, (by (try dsimp only); omega)⟩
      dsimp only; rw [ho1]; rfl
  · obtain rfl : i = ms.length := by omega
    rw [trI_all] at *
    refine sgo ?_
    (first | refine fp1 (.inl rfl) rfl rfl ?_ | refine fp2 (.inl rfl) rfl rfl rfl ?_ | refine fp3 (.inl rfl) rfl rfl rfl rfl ?_ | refine fp0 (.inr rfl) rfl ?_ | refine fp0 (.inl rfl) rfl ?_ | refine fp1 (.inr rfl) rfl rfl ?_)
    exact ⟨q, cc, rfl, hS.frm, hS0.seq hS⟩
end Go.Proofs.YthgbpgjpnaanlaaDoor

/-
  strings.Join (and Grow of a builder that has not been written).
-/
set_option linter.unusedSimpArgs false
set_option linter.unusedVariables false
set_option linter.unnecessarySimpa false
namespace Go.Sv
open Go Go.RowKit
section
variable {P : Program} {T E : TypeId} {w w' : World} {b : Nat} {q : Option Addr} {c : Nat} {s : List UInt8}
theorem y_cap {σ : Env} {d : Option Tmp} {ty t t' : TypeId} {pos : String} {af : Array Edge} {g : Option (Nat × Bool)} {x : Operand} {p : Option Addr} {m c : Nat} [hu : Und P t (.slice t')] (hx : evl σ x = .slice p m c) : Y P σ ⟨d, .call ⟨.builtin .cap, #[x], #[t]⟩, ty, pos, af, g⟩ w (int c) w := by
  refine Y.val ?_; simp only [execOp, resolve, Sem.run_bind, Sem.run_pure, Result.andThen_ok, invoke, builtin]
  simp [hx, Builtin.cap_, underlying, hu.ok, goInt]
theorem Bld.of_shelf {B : Nat} (h : Lib.BuilderAt T E B b (.pointer (pb b)) [] w) : ∃ q, Bld T E w b q [] ∧ ∀ k ∈ b :: rb q, B ≤ k := by
  obtain ⟨hB, v, hc, hr, hne⟩ := h
  have h0 : w.ownsRow 0 E 1 v 0 [] := by
    refine ⟨hr.1, ?_⟩
    rcases hr.2 with h1 | ⟨g, cap, cur, hv, h2, h3⟩
    · exact .inl h1
    · exact .inr ⟨g, cap, cur, hv, Nat.zero_le _, h3⟩
  obtain ⟨q, c, rfl⟩ : ∃ q c, v = .slice q 0 c := by
    rcases h0.2 with ⟨rfl, _⟩ | ⟨g, cap, cur, rfl, _⟩
    · exact ⟨_, _, rfl⟩
    · exact ⟨_, _, rfl⟩
  refine ⟨q, ⟨pb b, c, .inr rfl, hc, h0, fun hb => hne (rb_own.2 hb)⟩, fun k hk => ?_⟩
  rcases List.mem_cons.1 hk with rfl | hk
  · exact hB
  · exact (hr.lt k (rb_own.2 hk)).1
end
end Go.Sv
namespace Go.Proofs.YthgbpgjpnaanlaaDoor
open Go Go.Sv Go.RowKit

theorem grow_ok (b n : Nat) (w0 w : World) (hf : Frm w0 w) (hb : w0.heap.size ≤ b) (hn : n ≤ 1073741824) (h : BuP TB TY w b none none 0 []) :
    CallsR Tryd.prog 97 #[ptrAt (pb b) 0, int n] w fun _ w' => ∃ q, Bld TB TY w' b q [] ∧ (∀ k ∈ b :: rb q, w0.heap.size ≤ k) ∧ Frm w0 w' := by
  refine enter (l := [ptrAt (pb b) 0, int n]) Tryd.func97 rfl Tryd.ntmps97 (by kernel_rfl) rfl ?_
  refine sgo ?_
  refine wlcall (copyCheck_ok b none none 0 [] w h) ?_
  rintro v w1 ⟨rfl, h1, hl1⟩
  have ho : Own w1 b [.pointer (pb b), .slice none 0 0] := h1.own
  have hf1 : Frm w0 w1 := hf.step hl1 (by simpa using hb)
  refine sgo ?_
  refine wcno ?_ (ht := by simp)
  refine sgo ?_
  refine wcdraw ?_
  refine qgo ?_
  refine ql ?_ (YQ.ofY fun w hw => y_cap rfl)
  refine qgo ?_
  refine QL_nil ?_
  intro w2 hf2
  have hf3 := hf1.trans hf2
  have h2 : BuP TB TY w2 b (pb b) none 0 [] := h1.le (M := []) hf2.le (by simp) (by simp)
  refine sgo ?_
  (show WC _ _ _ _ _ _ _; first | refine WC_dec rfl (fun hc => ?_) (fun hc => ?_) | refine WC_cond rfl (fun hc => ?_) (fun hc => ?_))
  · refine sgo ?_
    refine wlcall (R := fun _ w' => ∃ q, Bld TB TY w' b q [] ∧ (∀ k ∈ b :: rb q, w0.heap.size ≤ k) ∧ Frm w0 w') ?_ ?_
    · refine Calls.mono (Tryd.Builder_grow_fresh w0.heap.size b n w2 hb h2.cell hf3.size (by omega)) ?_
      rintro e w3 ⟨rfl, hB, hf4⟩
      obtain ⟨q, hq1, hq2⟩ := Bld.of_shelf hB
      exact ⟨_, rfl, q, hq1, hq2, Below.trans hf3 hf4⟩
    rintro _ w3 ⟨q, hq1, hq2, hf4⟩
    refine sgo ?_
    (first | refine fp1 (.inl rfl) rfl rfl ?_ | refine fp2 (.inl rfl) rfl rfl rfl ?_ | refine fp3 (.inl rfl) rfl rfl rfl rfl ?_ | refine fp0 (.inr rfl) rfl ?_ | refine fp0 (.inl rfl) rfl ?_ | refine fp1 (.inr rfl) rfl rfl ?_)
    exact ⟨q, hq1, hq2, hf4⟩
  · refine sgo ?_
    (first | refine fp1 (.inl rfl) rfl rfl ?_ | refine fp2 (.inl rfl) rfl rfl rfl ?_ | refine fp3 (.inl rfl) rfl rfl rfl rfl ?_ | refine fp0 (.inr rfl) rfl ?_ | refine fp0 (.inl rfl) rfl ?_ | refine fp1 (.inr rfl) rfl rfl ?_)
    exact ⟨none, ⟨_, _, h2⟩, by intro k hk; simp [rb] at hk; omega, hf3⟩
/-- texts, put together -/
def joinR (sep : List UInt8) : List (List UInt8) → List UInt8
  | [] => []
  | x :: r => x ++ r.flatMap fun y => sep ++ y
def tlen (l : List (List UInt8)) : Nat := (l.map List.length).sum
theorem join_len (sep x : List UInt8) (r : List (List UInt8)) : (joinR sep (x :: r)).length = sep.length * r.length + tlen (x :: r) := by
  have : (r.flatMap fun y => sep ++ y).length = sep.length * r.length + tlen r := by
    induction r with
    | nil => simp [tlen]
    | cons y r ih => simp only [List.flatMap_cons, List.length_append, ih, tlen, List.map_cons, List.sum_cons, List.length_cons, Nat.mul_add, Nat.mul_one]; omega
  simp only [joinR, List.length_append, this, tlen, List.map_cons, List.sum_cons]; omega
theorem tlen_snoc {l : List (List UInt8)} {i : Nat} {x : List UInt8} (h : l[i]? = some x) : tlen (l.take (i + 1)) = tlen (l.take i) + x.length := by
  unfold tlen
  rw [List.take_add_one, h, List.map_append, List.sum_append]; simp
theorem tlen_take (l : List (List UInt8)) (i : Nat) : tlen (l.take i) ≤ tlen l := by
  have : tlen l = tlen (l.take i) + tlen (l.drop i) := by
    unfold tlen
    rw [← List.sum_append, ← List.map_append, List.take_append_drop]
  omega
theorem join_snoc {sep x : List UInt8} {r : List (List UInt8)} {i : Nat} {y : List UInt8} (h : r[i]? = some y) : joinR sep (x :: r.take (i + 1)) = joinR sep (x :: r.take i) ++ sep ++ y := by
  simp only [joinR]
  rw [List.take_add_one, h, List.flatMap_append]; simp
set_option maxHeartbeats 2000000 in
theorem join_ok (l : List (List UInt8)) (sep : List UInt8) (p : Option Addr) (c : Nat) (hc : l.length ≤ c) (hn : l.length ≤ 1048577) (hsp : sep.length ≤ 1048576) (hj : (joinR sep l).length ≤ 1073741824) (w : World) (hi : Im [] w p (strs l)) :
    PureC Tryd.prog 68 #[.slice p l.length c, str sep] w (str (joinR sep l)) := by
  match l, hc, hn, hj, hi with
  | [], hc, hn, hj, hi =>
    refine enter (l := [.slice p 0 c, str sep]) Tryd.func68 rfl Tryd.ntmps68 (by kernel_rfl) rfl ?_
    refine sgo ?_
    (first | refine fp1 (.inl rfl) rfl rfl ?_ | refine fp2 (.inl rfl) rfl rfl rfl ?_ | refine fp3 (.inl rfl) rfl rfl rfl rfl ?_ | refine fp0 (.inr rfl) rfl ?_ | refine fp0 (.inl rfl) rfl ?_ | refine fp1 (.inr rfl) rfl rfl ?_); refine ⟨?_, by (first | exact Frm.refl _ | assumption | exact Go.Sv.Sep.frm (by assumption) | (refine Frm.trans ?_ (by assumption); first | exact Frm.refl _ | assumption))⟩; (try simp only [realB, rv_true, Nat.reduceBEq, cond_true, cond_false, entG, real_lif, updGL])
    rfl
  | [x], hc, hn, hj, hi =>
    have hSg : Sg w p [str x] := hi.sg
    have hps : ∃ q, p = some q := hi.some (by simp [strs])
    refine enter (l := [.slice p 1 c, str sep]) Tryd.func68 rfl Tryd.ntmps68 (by kernel_rfl) rfl ?_
    refine sgo ?_
    (first | refine fp1 (.inl rfl) rfl rfl ?_ | refine fp2 (.inl rfl) rfl rfl rfl ?_ | refine fp3 (.inl rfl) rfl rfl rfl rfl ?_ | refine fp0 (.inr rfl) rfl ?_ | refine fp0 (.inl rfl) rfl ?_ | refine fp1 (.inr rfl) rfl rfl ?_); refine ⟨?_, by (first | exact Frm.refl _ | assumption | exact Go.Sv.Sep.frm (by assumption) | (refine Frm.trans ?_ (by assumption); first | exact Frm.refl _ | assumption))⟩; (try simp only [realB, rv_true, Nat.reduceBEq, cond_true, cond_false, entG, real_lif, updGL])
    simp [joinR]
  | x :: y :: r, hc, hn, hj, hi =>
    have hl : (x :: y :: r).length = r.length + 2 := rfl
    have hjl := join_len sep x (y :: r)
    have hps : ∃ q, p = some q := hi.some (by simp [strs])
    have hrl : (y :: r).length = r.length + 1 := rfl
    have hx0 : (strs (x :: y :: r))[0]? = some (str x) := rfl
    have hxl : x.length ≤ tlen (x :: y :: r) := by simp [tlen]
    have htl : Im [] w (p.map (·.add 1)) (strs (y :: r)) := hi.drop 1
    rw [hrl] at hjl
    generalize hL : x :: y :: r = L at *
    have hm : sep.length * (r.length + 1) ≤ 1073741824 := by omega
    have hmi : (sep.length : Int) * ((L.length : Int) - 1) = ((sep.length * (r.length + 1) : Nat) : Int) := by
      rw [hl]; push_cast; congr 1; omega
    generalize hM : sep.length * (r.length + 1) = M at *
    refine enter (l := [.slice p L.length c, str sep]) Tryd.func68 rfl Tryd.ntmps68 (by kernel_rfl) rfl ?_
    refine sgo ?_
    refine wcno ?_ (ht := decide_eq_false (by omega))
    refine sgo ?_
    refine wcno ?_ (ht := decide_eq_false (by omega))
    refine sgo ?_
    refine wcutt (X := Unit) (fun _ => [(0, .slice p L.length c), (1, str sep), (5, int M)]) (fun _ w' => w' = w) ?_ ?_
    · (show WC _ _ _ _ _ _ _; first | refine WC_dec rfl (fun hc => ?_) (fun hc => ?_) | refine WC_cond rfl (fun hc => ?_) (fun hc => ?_))
      · have hq : (sep.length : Int) < 9223372036854775807 / ((L.length : Int) - 1) := by
          have := (Int.le_ediv_iff_mul_le (c := (L.length : Int) - 1) (a := (sep.length : Int) + 1) (b := 9223372036854775807) (by omega)).2 (by rw [Int.add_mul, hmi]; omega)
          omega
        refine sgo ?_
        refine wcno ?_ (ht := decide_eq_false (by omega))
        refine sgo ?_
        refine ⟨(), ⟨rfl, rfl, ?_, trivial⟩, rfl⟩
        show int _ = int _
        rw [hmi, Int.zero_add]
      · have hz : sep.length = 0 := by omega
        have hM0 : M = 0 := by rw [← hM, hz, Nat.zero_mul]
        refine sgo ?_
        refine ⟨(), ⟨rfl, rfl, ?_, trivial⟩, rfl⟩
        rw [hM0]; rfl
    rintro _ w1 ρ rfl
    have hSg : Sg w1 p (strs L) := hi.sg
    have hsl := strs_len L
    refine sgo ?_
    refine wcloop (X := Nat) (fun i => [(0, .slice p L.length c), (1, str sep), (5, int ((M + tlen (L.take i) : Nat))), (39, .slice p L.length c), (40, int L.length), (41, int i)])
      (fun i wr => i ≤ L.length ∧ wr = w1) (fun i => L.length - i) 0 ⟨rfl, rfl, rfl, rfl, rfl, rfl, trivial⟩ ⟨Nat.zero_le _, rfl⟩ ?_
    rintro i w1 ρ2 ⟨hil, rfl⟩
    have ht1 := tlen_take L i
    refine sgo ?_
    (show WC _ _ _ _ _ _ _; first | refine WC_dec rfl (fun hc => ?_) (fun hc => ?_) | refine WC_cond rfl (fun hc => ?_) (fun hc => ?_))
    · have hlt : i < L.length := by omega
      have hx : L[i]? = some L[i] := List.getElem?_eq_getElem hlt
      have hgx := strs_at hx
      have hsn := tlen_snoc hx
      have ht2 := tlen_take L (i + 1)
      generalize L[i] = z at *
      clear hc
      refine sgo ?_
      refine wcno ?_ (ht := decide_eq_false (by omega))
      refine sgo ?_
      refine ⟨i + 1, ⟨rfl, rfl, ?_, rfl, rfl, rfl, trivial⟩, ⟨hlt, rfl⟩, (by (try dsimp only); omega)⟩
      show int _ = int _
      congr 1
      omega
    · obtain rfl : i = L.length := by omega
      rw [List.take_length]
      refine sgo ?_
      refine wlallocT fun b w2 hbw ha0 hf0 => ?_
      have hB0 : BuP TB TY w2 b none none 0 [] := ⟨.inl rfl, ha0, ⟨by simp [bs], .inl ⟨rfl, rfl⟩⟩, by simp [rb]⟩
      refine sgo ?_
      refine wlcall (grow_ok b (M + tlen L) w1 w2 hf0 hbw (by omega) hB0) ?_
      rintro _ w3 ⟨q, hB3, hq3, hf3⟩
      have hSg := (hi.frm hf3).sg
      have htl3 := htl.frm hf3
      have hYL : L.length = (y :: r).length + 1 := by rw [hl]; rfl
      have hjt : ∀ i, (joinR sep (x :: (y :: r).take i)).length ≤ (joinR sep L).length := by
        intro i
        rw [← hL, join_len, join_len]
        have h1 : ((y :: r).take i).length ≤ (y :: r).length := by rw [List.length_take]; omega
        have h2 := Nat.mul_le_mul_left sep.length h1
        have h3 := tlen_take (y :: r) i
        simp only [tlen, List.map_cons, List.sum_cons] at h3 ⊢
        omega
      generalize hY : y :: r = Y at *
      have hjx : joinR sep (x :: Y) = joinR sep L := by rw [← hL]
      refine sgo ?_
      refine wlcall (writeString_ok b q [] x _ hB3 (by simp only [List.length_nil]; omega)) ?_
      rintro _ w4 ⟨rfl, q4, hB4, hl4⟩
      have hf4 := hf3.step hl4.1 hq3
      have hq4 := hl4.fresh hf3 hq3
      clear hB3 hl4
      refine sgo ?_
      have he : slp c (Int.toNat 1) p (Int.toNat 1 * 1) = p.map (·.add 1) := slp_ne (show c ≠ 1 by omega) p 1
      rw [he]
      have hps2 : ∃ q, p.map (·.add 1) = some q := by obtain ⟨a, rfl⟩ := hps; exact ⟨_, rfl⟩
      have hYl : Y.length = L.length - 1 := by omega
      generalize p.map (·.add 1) = p2 at *
      clear he
      rw [List.nil_append] at hB4
      refine wcloop (X := Nat × Option Addr) (fun x => [(1, str sep), (8, ptrAt (pb b) 0), (63, .slice p2 (L.length - 1) (c - 1)), (64, int (L.length - 1 : Nat)), (65, int x.1)])
        (fun z wr => z.1 ≤ Y.length ∧ Bld TB TY wr b z.2 (joinR sep (x :: Y.take z.1)) ∧ Frm w1 wr ∧ ∀ k ∈ b :: rb z.2, w1.heap.size ≤ k)
        (fun x => Y.length - x.1) (0, q4) ⟨rfl, rfl, rfl, rfl, rfl, trivial⟩ ⟨by omega, by simpa [joinR] using hB4, hf4, hq4⟩ ?_
      clear hB4 hq4 hf4 htl3 hSg hf3 hq3
      rintro ⟨i, q5⟩ wr ρ3 ⟨hil, hBl, hfr, hq5⟩
      dsimp only at hil hBl hq5 ⊢
      rw [← hYl]
      have hI := htl.frm hfr
      have hSg := hI.sg
      have hsl := strs_len Y
      refine sgo ?_
      (show WC _ _ _ _ _ _ _; first | refine WC_dec rfl (fun hc => ?_) (fun hc => ?_) | refine WC_cond rfl (fun hc => ?_) (fun hc => ?_))
      · have hlt : i < Y.length := by omega
        have hx : Y[i]? = some Y[i] := List.getElem?_eq_getElem hlt
        have hgx := strs_at hx
        have hsn := join_snoc (sep := sep) (x := x) hx
        have ht1 := hjt i
        have ht2 := hjt (i + 1)
        rw [hsn, List.length_append, List.length_append] at ht2
        generalize Y[i] = z at *
        generalize joinR sep (x :: Y.take i) = A at *
        clear hc
        refine sgo ?_
        refine wlcall (writeString_ok b q5 A sep _ hBl (by omega)) ?_
        rintro _ w5 ⟨rfl, q6, hB6, hl6⟩
        have hf6 := hfr.step hl6.1 hq5
        have hq6 := hl6.fresh hfr hq5
        clear hBl hl6
        refine sgo ?_
        refine wlcall (writeString_ok b q6 (A ++ sep) z _ hB6 (by rw [List.length_append]; omega)) ?_
        rintro _ w7 ⟨rfl, q7, hB7, hl7⟩
        have hf7 := hf6.step hl7.1 hq6
        have hq7 := hl7.fresh hf6 hq6
        refine sgo ?_
        refine ⟨(i + 1, q7), ⟨rfl, rfl, rfl, rfl, rfl, trivial⟩, ⟨by dsimp only; omega, ?_, hf7, hq7⟩, by dsimp only; omega⟩
        dsimp only; rw [hsn]; exact hB7
      · obtain rfl : i = Y.length := by omega
        rw [List.take_length] at hBl
        refine sgo ?_
        refine wlcall (string_ok w1.heap.size b q5 _ _ hBl hq5 hfr.size) ?_
        rintro v w8 ⟨rfl, hf8⟩
        have hfr8 : Frm w1 w8 := Below.trans hfr hf8
        refine sgo ?_
        (first | refine fp1 (.inl rfl) rfl rfl ?_ | refine fp2 (.inl rfl) rfl rfl rfl ?_ | refine fp3 (.inl rfl) rfl rfl rfl rfl ?_ | refine fp0 (.inr rfl) rfl ?_ | refine fp0 (.inl rfl) rfl ?_ | refine fp1 (.inr rfl) rfl rfl ?_); refine ⟨?_, by (first | exact Frm.refl _ | assumption | exact Go.Sv.Sep.frm (by assumption) | (refine Frm.trans ?_ (by assumption); first | exact Frm.refl _ | assumption))⟩; (try simp only [realB, rv_true, Nat.reduceBEq, cond_true, cond_false, entG, real_lif, updGL])
        rw [hjx]
end Go.Proofs.YthgbpgjpnaanlaaDoor

/-
  Regions that draw their order, by a plan, where operations may also take (and write) what lay there before.
-/
set_option linter.unusedSimpArgs false
set_option linter.unusedVariables false
set_option linter.unnecessarySimpa false
namespace Go.Sv
open Go Go.RowKit
theorem perm5 {α : Type} (A B C D E : List α) : ((A ++ B) ++ ((C ++ D) ++ E)).Perm (A ++ (C ++ (E ++ (B ++ D)))) := by
  simp only [List.append_assoc]
  refine List.Perm.append_left _ ?_
  have h1 : (B ++ (C ++ (D ++ E))).Perm (C ++ (B ++ (D ++ E))) := by
    rw [← List.append_assoc B C, ← List.append_assoc C B]
    exact List.perm_append_comm.append_right _
  refine h1.trans (List.Perm.append_left _ ?_)
  rw [← List.append_assoc]
  exact List.perm_append_comm
theorem perm4 {α : Type} (A B C D : List α) : (A ++ (B ++ (C ++ D))).Perm ((A ++ C) ++ (D ++ B)) := by
  simp only [List.append_assoc]
  refine List.Perm.append_left _ ?_
  have h1 : (B ++ (C ++ D)).Perm ((C ++ D) ++ B) := List.perm_append_comm
  rw [List.append_assoc] at h1
  exact h1
/-- what an operation leaves: its value, and where what it made lies -/
structure PD (X : Type) where
  v : Value
  p : Option Addr
  c : Nat
  b : Nat
  x : X
structure PlanB (X : Type) where
  pl : Nat → PD X → List Plot
  con : Nat → Option Nat
  base : Nat → List Plot
  fact : Nat → (Nat → PD X) → Prop
section
variable {X : Type}
def PlanB.live (p : PlanB X) (L : Nat → Bool) (j : Nat) : Bool := L j && (match p.con j with | some c => !L c | none => true)
def PlanB.mem (p : PlanB X) (n : Nat) (L : Nat → Bool) (a : Nat → PD X) : List Plot := ((List.range n).filter (p.live L)).flatMap fun j => p.pl j (a j)
/-- what operation k takes -/
def PlanB.takes (p : PlanB X) (n k : Nat) (a : Nat → PD X) : List Plot := ((List.range n).filter fun j => decide (p.con j = some k)).flatMap fun j => p.pl j (a j)
/-- what lay there before and is still to be taken -/
def PlanB.bmem (p : PlanB X) (n : Nat) (L : Nat → Bool) : List Plot := ((List.range n).filter fun j => !L j).flatMap p.base
def PlanB.S (p : PlanB X) (w0 : World) (cs : List Plot) (σ0 : Env) (ops : List Oper) (L : Nat → Bool) (σ : Env) (w : World) : Prop :=
  (∀ s, (∀ (k : Nat) (o : Oper), ops[k]? = some o → L k = true → o.dst ≠ some s) → σ s = σ0 s) ∧
  ∃ a : Nat → PD X, (∀ (k : Nat) (o : Oper), ops[k]? = some o → L k = true → (∀ d, o.dst = some d → σ d = (a k).v) ∧ p.fact k a) ∧ Sep w0 w (p.mem ops.length L a ++ (p.bmem ops.length L ++ cs))
/-- how operation k goes, by the plan -/
def PlanB.Rule (p : PlanB X) (P : Program) (w0 : World) (cs : List Plot) (σ0 : Env) (ops : List Oper) (k : Nat) (o : Oper) : Prop :=
  ∀ (a : Nat → PD X) (σ : Env) (w : World) (rest : List Plot), (∀ s, (∀ (j : Nat) (o : Oper), ops[j]? = some o → j ≠ k → bindsOn o k = false → o.dst ≠ some s) → σ s = σ0 s) →
    (∀ (j : Nat) (oj : Oper), bindsOn o j = true → ops[j]? = some oj → (∀ d, oj.dst = some d → σ d = (a j).v) ∧ p.fact j a) → Sep w0 w (p.takes ops.length k a ++ (p.base k ++ (cs ++ rest))) →
    (Region.wanted o (yl ops.toArray σ) = true ∧ comes P (fun v w' => ∃ d, v = d.v ∧ p.fact k (setD a k d) ∧ Sep w0 w' (p.pl k d ++ (cs ++ rest))) ((execOp (evl σ) o).run P w)) ∨
    (Region.wanted o (yl ops.toArray σ) = false ∧ ∃ d, undef = d.v ∧ p.fact k (setD a k d) ∧ Sep w0 w (p.pl k d ++ (cs ++ rest)))
def PlanB.Rules (p : PlanB X) (P : Program) (w0 : World) (cs : List Plot) (σ0 : Env) (ops : List Oper) : Nat → List Oper → Prop
  | _, [] => True
  | k, o :: l => p.Rule P w0 cs σ0 ops k o ∧ p.Rules P w0 cs σ0 ops (k + 1) l
theorem planb_step {p : PlanB X} {P : Program} {w0 : World} {cs : List Plot} {σ0 : Env} {ops : List Oper} (hB : planB p.con ops = true)
    (hF : ∀ (j : Nat) (oj : Oper) (a a' : Nat → PD X), ops[j]? = some oj → a j = a' j → (∀ i, bindsOn oj i = true → a i = a' i) → p.fact j a → p.fact j a') {k : Nat} {o : Oper} (hk : ops[k]? = some o) (h : p.Rule P w0 cs σ0 ops k o) : StepI P ops.toArray (p.S w0 cs σ0 ops) k o := by
  rintro L σ w hu ⟨hσ, a, hA, hS⟩
  have hkn : k < ops.length := by
    rcases Nat.lt_or_ge k ops.length with h | h
    · exact h
    · rw [List.getElem?_eq_none h] at hk; cases hk
  have hcon : ∀ j c, j < ops.length → p.con j = some c → ∃ oc, ops[c]? = some oc ∧ bindsOn oc j = true := by
    intro j c hj hc
    have := List.all_eq_true.1 hB j (List.mem_range.2 hj)
    rw [Bool.and_eq_true, hc] at this
    have h1 := this.1
    simp only [Bool.and_eq_true, decide_eq_true_eq] at h1
    rw [List.getElem?_eq_getElem h1.1] at h1
    exact ⟨_, List.getElem?_eq_getElem h1.1, h1.2⟩
  have hdst : ∀ (i j : Nat) (oi oj : Oper) (d : Nat), ops[i]? = some oi → ops[j]? = some oj → i ≠ j → oi.dst = some d → oj.dst ≠ some d := by
    intro i j oi oj d hi hj hne hd
    have hjn : j < ops.length := (List.getElem?_eq_some_iff.1 hj).1
    have hin : i < ops.length := (List.getElem?_eq_some_iff.1 hi).1
    have := List.all_eq_true.1 hB j (List.mem_range.2 hjn)
    rw [Bool.and_eq_true] at this
    have := List.all_eq_true.1 this.2 i (List.mem_range.2 hin)
    rw [hi, hj] at this
    simp only [hne, decide_false, Bool.false_or, hd, decide_eq_true_eq] at this
    exact this
  -- what k takes, and the rest
  let q : Nat → Bool := fun j => p.live L j && !decide (p.con j = some k)
  let rest0 : List Plot := ((List.range ops.length).filter q).flatMap fun j => p.pl j (a j)
  let bm : List Plot := p.bmem ops.length (on L k)
  let rest : List Plot := rest0 ++ bm
  have hbm : (p.bmem ops.length L).Perm (p.base k ++ bm) := by
    have hl : (List.range ops.length).filter (fun j => !L j) = (List.range ops.length).filter fun j => decide (j = k) || !(on L k) j := by
      refine List.filter_congr fun j hj => ?_
      by_cases e : j = k
      · subst e; simp [hu.now]
      · simp [e, on_ne L e]
    show (((List.range ops.length).filter fun j => !L j).flatMap p.base).Perm _
    rw [hl]
    refine ((filter_insert (q := fun j => !(on L k) j) (by simp [on_same]) List.nodup_range (List.mem_range.2 hkn)).flatMap_right p.base).trans ?_
    rw [List.flatMap_cons]
    exact List.Perm.refl _
  have htake : (List.range ops.length).filter (fun j => p.live L j && decide (p.con j = some k)) = (List.range ops.length).filter fun j => decide (p.con j = some k) := by
    refine List.filter_congr fun j hj => ?_
    by_cases hc : p.con j = some k
    · obtain ⟨oc, ho, hb⟩ := hcon j k (List.mem_range.1 hj) hc
      rw [hk] at ho
      injection ho with ho
      subst ho
      have h1 := hu.did j hb
      simp [PlanB.live, hc, h1, hu.now]
    · simp [hc]
  have hperm : (p.mem ops.length L a ++ (p.bmem ops.length L ++ cs)).Perm (p.takes ops.length k a ++ (p.base k ++ (cs ++ rest))) := by
    have h1 : ((List.range ops.length).filter fun j => decide (p.con j = some k)) ++ ((List.range ops.length).filter q) |>.Perm ((List.range ops.length).filter (p.live L)) := by
      have h2 := List.filter_append_perm (fun j => decide (p.con j = some k)) ((List.range ops.length).filter (p.live L))
      rw [List.filter_filter, List.filter_filter] at h2
      rw [← htake]
      refine List.Perm.trans ?_ h2
      refine List.Perm.append (List.Perm.of_eq (List.filter_congr fun j _ => Bool.and_comm _ _)) (List.Perm.of_eq (List.filter_congr fun j _ => Bool.and_comm _ _))
    have h3 := (h1.symm.flatMap_right fun j => p.pl j (a j))
    rw [List.flatMap_append] at h3
    exact (h3.append (hbm.append_right cs)).trans (perm5 _ _ _ _ _)
  have hlive : ∀ d, (p.mem ops.length (on L k) (setD a k d)).Perm (p.pl k d ++ rest0) := by
    intro d
    have hq : q k = false := by simp [q, PlanB.live, hu.now]
    have hl : (List.range ops.length).filter (p.live (on L k)) = (List.range ops.length).filter fun j => decide (j = k) || q j := by
      refine List.filter_congr fun j hj => ?_
      by_cases e : j = k
      · subst e
        have : (match p.con j with | some c => !(on L j c) | none => true) = true := by
          cases hc : p.con j with
          | none => rfl
          | some c =>
            obtain ⟨oc, ho, hb⟩ := hcon j c hkn hc
            have h1 := hu.ahead c oc (by simpa using ho) hb
            have hne : c ≠ j := by
              intro e
              subst e
              rw [hk] at ho
              injection ho with ho
              subst ho
              have := hu.did c hb
              rw [hu.now] at this
              cases this
            simp [on_ne L hne, h1]
        simp only [PlanB.live, on_same, this, Bool.and_self, decide_true, Bool.true_or]
      · simp only [PlanB.live, on_ne L e, decide_eq_false e, Bool.false_or, q]
        cases hc : p.con j with
        | none => simp
        | some c =>
          by_cases ec : c = k
          · subst ec; simp [on_same]
          · have : ¬ (some c = some k) := fun h => ec (Option.some.inj h)
            simp [on_ne L ec, this]
    unfold PlanB.mem
    rw [hl]
    refine ((filter_insert hq List.nodup_range (List.mem_range.2 hkn)).flatMap_right fun j => p.pl j (setD a k d j)).trans ?_
    rw [List.flatMap_cons, setD_same]
    refine List.Perm.append_left _ (List.Perm.of_eq ?_)
    show _ = List.flatMap (fun j => p.pl j (a j)) (List.filter q (List.range ops.length))
    rw [List.flatMap_def, List.flatMap_def]
    refine congrArg _ (List.map_congr_left fun j hj => ?_)
    have : j ≠ k := by
      rintro rfl
      have := (List.mem_filter.1 hj).2
      rw [hq] at this; cases this
    rw [setD_ne a d this]
  have hnew : ∀ d w', p.fact k (setD a k d) → Sep w0 w' (p.pl k d ++ (cs ++ rest)) → p.S w0 cs σ0 ops (on L k) (updO σ o.dst (d.v)) w' := by
    intro d w' hf hS'
    refine ⟨fun s hs => ?_, setD a k d, fun j oj hj hL => ?_, ?_⟩
    · have h1 := hs k o hk (on_same L k)
      have hs' : ∀ (j : Nat) (oj : Oper), ops[j]? = some oj → L j = true → oj.dst ≠ some s := fun j oj hj hL => hs j oj hj (by
        by_cases e : j = k
        · subst e; exact on_same L j
        · rw [on_ne L e]; exact hL)
      cases hd : o.dst with
      | none => exact hσ s hs'
      | some dd =>
        rw [hd] at h1
        exact (upd_ne σ _ (fun e => h1 (by rw [e]))).trans (hσ s hs')
    · by_cases e : j = k
      · subst e
        rw [hk] at hj
        injection hj with hj
        subst hj
        refine ⟨fun dd hd => ?_, hf⟩
        rw [hd, setD_same]
        exact upd_same σ dd _
      · rw [on_ne L e] at hL
        obtain ⟨h1, h2⟩ := hA j oj hj hL
        refine ⟨fun dd hd => ?_, ?_⟩
        · rw [setD_ne a d e, ← h1 dd hd]
          cases hdo : o.dst with
          | none => rfl
          | some d2 =>
            have := hdst k j o oj d2 hk hj (fun e2 => e e2.symm) hdo
            exact upd_ne σ _ (fun e2 => this (by rw [hd, e2]))
        · refine hF j oj a _ hj (setD_ne a d e).symm (fun i hi => ?_) h2
          have : i ≠ k := by
            rintro rfl
            have := hu.ahead j oj (by simpa using hj) hi
            rw [this] at hL; cases hL
          exact (setD_ne a d this).symm
    · refine hS'.perm ?_
      exact (perm4 _ _ _ _).trans ((hlive d).symm.append_right _)
  rcases h a σ w rest (fun s hs => hσ s fun j oj hj hL => hs j oj hj (fun e => by rw [e, hu.now] at hL; cases hL) (by
      cases hb : bindsOn oj k with
      | false => rfl
      | true => have := hu.ahead j oj (by simpa using hj) hb; rw [this] at hL; cases hL)) (fun j oj hb hj => hA j oj hj (hu.did j hb)) (hS.perm hperm) with ⟨h1, h2⟩ | ⟨h1, d, h2, h3, h4⟩
  · refine .inl ⟨h1, comes_mono (fun v w' => ?_) h2⟩
    rintro ⟨d, rfl, hf, hS'⟩
    exact hnew d w' hf hS'
  · refine .inr ⟨h1, ?_⟩
    rw [h2]
    exact hnew d w h3 h4
theorem planb_steps {p : PlanB X} {P : Program} {w0 : World} {cs : List Plot} {σ0 : Env} {ops : List Oper} (hB : planB p.con ops = true)
    (hF : ∀ (j : Nat) (oj : Oper) (a a' : Nat → PD X), ops[j]? = some oj → a j = a' j → (∀ i, bindsOn oj i = true → a i = a' i) → p.fact j a → p.fact j a') : ∀ (l : List Oper) (k : Nat), (∀ j o, l[j]? = some o → ops[k + j]? = some o) → p.Rules P w0 cs σ0 ops k l → StepsI P ops.toArray (p.S w0 cs σ0 ops) k l
  | [], _, _, _ => trivial
  | o :: l, k, hl, hr => ⟨planb_step hB hF (by simpa using hl 0 o rfl) hr.1, planb_steps hB hF l (k + 1) (fun j o' h => by rw [show k + 1 + j = k + (j + 1) from by omega]; exact hl (j + 1) o' (by simpa using h)) hr.2⟩
/-- a region that draws, by a plan -/
theorem wcplanb {P : Program} [hm : Mix P] {n : Nat} {ds : Ctx} {Q : Exit → Ctx → Env → World → Prop} {σ : Env} {w w0 : World} {id : Nat} {ops : List Oper} {cs b : List Plot} (p : PlanB X) (d0 : PD X) (hS : Sep w0 w (b ++ cs)) (hb : (List.range ops.length).flatMap p.base = b)
    (hF : ∀ (j : Nat) (oj : Oper) (a a' : Nat → PD X), ops[j]? = some oj → a j = a' j → (∀ i, bindsOn oj i = true → a i = a' i) → p.fact j a → p.fact j a')
    (hR : p.Rules P w0 cs σ ops 0 ops)
    (hend : ∀ (a : Nat → PD X) σ' w', (∀ s, (∀ (k : Nat) (o : Oper), ops[k]? = some o → o.dst ≠ some s) → σ' s = σ s) → (∀ (k : Nat) (o : Oper), ops[k]? = some o → (∀ d, o.dst = some d → σ' d = (a k).v) ∧ p.fact k a) →
      Sep w0 w' (((List.range ops.length).filter fun j => (p.con j).isNone).flatMap (fun j => p.pl j (a j)) ++ cs) → Q .normal ds σ' w')
    (hB : planB p.con ops = true := by kernel_rfl) (hf : fwdB ops.toArray = true := by kernel_rfl) (hro : ds.ro = none := by rfl) : WC P n ds (.region id ops.toArray true) Q σ w := by
  refine wcdrawi (p.S w0 cs σ ops) (fun wd hwd => ⟨fun _ _ => rfl, fun _ => d0, fun _ _ _ h => absurd h Bool.false_ne_true, ?_⟩) (planb_steps hB hF ops 0 (fun j o h => by rwa [Nat.zero_add]) hR) ?_ hf hro
  · have e : p.mem ops.length (fun _ => false) (fun _ => d0) = [] := by
      unfold PlanB.mem
      rw [List.filter_eq_nil_iff.2 (by intro j _; simp [PlanB.live])]
      rfl
    have e2 : p.bmem ops.length (fun _ => false) = b := by
      rw [← hb]; unfold PlanB.bmem
      rw [List.filter_eq_self.2 (by intro j _; rfl)]
    rw [e, e2]
    exact hS.grow hwd
  · rintro L σ' w' hL ⟨hσ, a, hA, hS'⟩
    refine hend a σ' w' (fun s hs => hσ s fun k o hk _ => hs k o hk) (fun k o hk => hA k o hk (hL k (List.getElem?_eq_some_iff.1 hk).1)) ?_
    have e2 : p.bmem ops.length L = [] := by
      unfold PlanB.bmem
      rw [List.filter_eq_nil_iff.2 (by intro j hj; simp [hL j (List.mem_range.1 hj)])]
      rfl
    rw [e2] at hS'
    refine hS'.perm (List.Perm.append_right _ (List.Perm.of_eq ?_))
    unfold PlanB.mem
    congr 1
    refine List.filter_congr fun j hj => ?_
    have h1 := hL j (List.mem_range.1 hj)
    simp only [PlanB.live, h1, Bool.true_and]
    cases hc : p.con j with
    | none => rfl
    | some c =>
      have := List.all_eq_true.1 hB j hj
      rw [Bool.and_eq_true, hc] at this
      have h2 := this.1
      simp only [Bool.and_eq_true, decide_eq_true_eq] at h2
      simp [hL c h2.1]
end
theorem notDstB {ops : List Oper} {s k : Nat} (h : ((List.range ops.length).all fun j => match ops[j]? with | some o => decide (j = k) || bindsOn o k || decide (o.dst ≠ some s) | none => true) = true) :
    ∀ (j : Nat) (o : Oper), ops[j]? = some o → j ≠ k → bindsOn o k = false → o.dst ≠ some s := fun j o hj hne hb => by
  have := List.all_eq_true.1 h j (List.mem_range.2 (List.getElem?_eq_some_iff.1 hj).1)
  rw [hj] at this
  simpa [hne, hb] using this
end Go.Sv

