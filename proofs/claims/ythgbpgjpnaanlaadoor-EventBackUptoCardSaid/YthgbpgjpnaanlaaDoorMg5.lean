/-
  Our texts SvEvY, SvEbB, SvMr, SvMi, SvFv, SvPb, SvGen, SvEq, SvTabE, SvEvE, SvEvO, SvEvP, SvEvU, SvEvV, SvEcA, SvGb, SvEvZ, SvTabF, SvKp, SvKq, SvEvQ, SvEvR, SvEvS, SvEd, SvWk, SvEbC, SvTpD, joined.
-/
import Derived.Test.YthgbpgjpnaanlaaDoorMg4
import Derived.Maps.RangeRun
import Derived.Laws.StructEq
import Derived.Test.YthgbpgjpnaanlaaDoorRows
/-
  Package event: Close; slices.Backward.
-/
set_option linter.unusedSimpArgs false
set_option linter.unusedVariables false
set_option linter.unnecessarySimpa false
namespace Go.Proofs.YthgbpgjpnaanlaaDoor
open Go Go.Sv Go.RowKit

set_option maxHeartbeats 1000000 in
theorem back1_ok (lr b : Nat) (L : List (List UInt8)) (q : Option Addr) (c : Nat) (hn : L.length ≤ 1048576) (J Jx : Nat → World → Prop)
    (hres : ∀ i w, J i w → Own w b [.slice q L.length c] ∧ Sg w q (strs L))
    (hY : ∀ i w x, J i w → i < L.length → L.reverse[i]? = some x → Yld Tryd.prog lr [int ((L.length - 1 - i : Nat) : Int), str x] w fun bb w' => if bb then J (i + 1) w' else Jx i w')
    (w : World) (h0 : J 0 w) :
    CallsR Tryd.prog 79 #[.func (.yield lr) #[] #[], ptrAt (pb b) 0] w fun _ w' => J L.length w' ∨ ∃ i, i < L.length ∧ Jx i w' := by
  obtain ⟨ho, hsg⟩ := hres 0 w h0
  refine enter (l := [.func (.yield lr) #[] #[], ptrAt (pb b) 0]) Tryd.func79 rfl Tryd.ntmps79 (by kernel_rfl) rfl ?_
  refine sgo ?_
  refine wcloop (X := Nat) (fun i => [(0, .func (.yield lr) #[] #[]), (1, ptrAt (pb b) 0), (3, int ((L.length : Int) - 1 - i))])
    (fun i wr => i ≤ L.length ∧ J i wr) (fun i => L.length - i) 0 ⟨rfl, rfl, ?_, trivial⟩ ⟨Nat.zero_le _, h0⟩ ?_
  · show Value.int .i64 ((L.length : Int) - 1) = _
    simp
  clear ho hsg
  rintro i wr ρ ⟨hil, hJ⟩
  obtain ⟨ho, hsg⟩ := hres i wr hJ
  refine sgo ?_
  (show WC _ _ _ _ _ _ _; first | refine WC_dec rfl (fun hc => ?_) (fun hc => ?_) | refine WC_cond rfl (fun hc => ?_) (fun hc => ?_))
  · have hlt : i < L.length := by omega
    have hx : L.reverse[i]? = some L[L.length - 1 - i] := by rw [List.getElem?_reverse hlt, List.getElem?_eq_getElem (by omega)]
    have hg : (strs L)[((L.length : Int) - 1 - i).toNat]? = some (str L[L.length - 1 - i]) := by
      rw [show ((L.length : Int) - 1 - i).toNat = L.length - 1 - i by omega]; exact strs_get _
    have hy := hY i wr _ hJ hlt hx
    rw [show ((L.length - 1 - i : Nat) : Int) = (L.length : Int) - 1 - i by omega] at hy
    generalize L[L.length - 1 - i] = x at *
    have hq : ∃ a, q = some a := hsg.some (by rw [strs_len]; omega)
    clear hc
    refine sgo ?_
    refine wlyield hy fun bb w2 h2 => ?_
    cases bb with
    | false =>
      refine sgo ?_
      (first | refine fp1 (.inl rfl) rfl rfl ?_ | refine fp2 (.inl rfl) rfl rfl rfl ?_ | refine fp3 (.inl rfl) rfl rfl rfl rfl ?_ | refine fp0 (.inr rfl) rfl ?_ | refine fp0 (.inl rfl) rfl ?_ | refine fp1 (.inr rfl) rfl rfl ?_)
      exact .inr ⟨i, hlt, h2⟩
    | true =>
      refine sgo ?_
      refine ⟨i + 1, ⟨rfl, rfl, ?_, trivial⟩, ⟨hlt, h2⟩, (by (try dsimp only); omega)⟩
      show Value.int .i64 ((L.length : Int) - 1 - i - 1) = int ((L.length : Int) - 1 - ((i + 1 : Nat) : Int))
      congr 1; omega
  · obtain rfl : i = L.length := by omega
    refine sgo ?_
    (first | refine fp1 (.inl rfl) rfl rfl ?_ | refine fp2 (.inl rfl) rfl rfl rfl ?_ | refine fp3 (.inl rfl) rfl rfl rfl rfl ?_ | refine fp0 (.inr rfl) rfl ?_ | refine fp0 (.inl rfl) rfl ?_ | refine fp1 (.inr rfl) rfl rfl ?_)
    exact .inl hJ
def closeE (n : List UInt8) : Ev := ⟨2, n, [], []⟩
/-- the events that close, in memory -/
def closeM (n : List UInt8) : EvM := ⟨closeE n, none, 0⟩
/-- what Open tells -/
def openS (k : Lk) : List (List UInt8) := if k.err = 0 then k.stack else []
theorem openS_len (ms : List EvM) : (openS (lkR (evs ms))).length ≤ ms.length := by
  have := (lk_bound (evs ms)).1
  rw [evs_len] at this
  unfold openS
  split
  · exact this
  · exact Nat.zero_le _
theorem open_ok2 (ms : List EvM) (p : Option Addr) (c : Nat) (hn : ms.length ≤ 1048576) (hs : ∀ m ∈ ms, m.e.small) (w0 w : World) (cs : List Plot) (hS : Sep w0 w cs) (hA : Asc w) (hE : Evs w p ms) :
    CallsR Tryd.prog 16 #[.slice p ms.length c] w fun v w' => ∃ q cc, v = .tuple #[.slice q (openS (lkR (evs ms))).length cc, int (lkR (evs ms)).err] ∧ Frm w w' ∧ Sep w0 w' (pRow 1 q (openS (lkR (evs ms))).length cc (strs (openS (lkR (evs ms)))) :: cs) := by
  refine CallsR.mono (open_ok ms p c hn hs w hA hE) ?_
  rintro _ w1 ⟨hf, ⟨h2, rfl⟩ | ⟨h2, q, cc, rfl, hS2⟩⟩
  · rw [openS, if_neg h2]
    exact ⟨none, 0, rfl, hf, hS.push hf (Row.nil w1 1) (by simp [pRow, rb])⟩
  · rw [openS, if_pos h2, h2]
    exact ⟨q, cc, rfl, hf, hS.seq hS2⟩
theorem back_ok (q : Option Addr) (n c : Nat) (w0 w : World) (cs : List Plot) (hS : Sep w0 w cs) :
    CallsR Tryd.prog 46 #[.slice q n c] w fun v w' => ∃ b, v = .func (.func 79) #[] #[ptrAt (pb b) 0] ∧ Frm w w' ∧ Sep w0 w' (pOwn b [.slice q n c] :: cs) := by
  refine enter (l := [.slice q n c]) Tryd.func46 rfl Tryd.ntmps46 (by kernel_rfl) rfl ?_
  refine WC_seq ?_
  refine WC_region ?_
  refine wlbox (v := .slice q n c) (fun b w1 hb ho hf => ?_) (hx := rfl)
  have hS1 : Sep w0 w1 (pOwn b [.slice q n c] :: cs) := hS.push hf ho (by simpa [pOwn] using hb)
  refine sgo ?_
  (first | refine fp1 (.inl rfl) rfl rfl ?_ | refine fp2 (.inl rfl) rfl rfl rfl ?_ | refine fp3 (.inl rfl) rfl rfl rfl rfl ?_ | refine fp0 (.inr rfl) rfl ?_ | refine fp0 (.inl rfl) rfl ?_ | refine fp1 (.inr rfl) rfl rfl ?_)
  exact ⟨b, rfl, hf, hS1⟩
theorem closeM_flat (l : List (List UInt8)) (n : List UInt8) : (l.map closeM).flatMap EvM.cells ++ (closeM n).cells = ((l ++ [n]).map closeM).flatMap EvM.cells := by simp
set_option maxHeartbeats 2000000 in
theorem close_ok (ms : List EvM) (p : Option Addr) (c : Nat) (hn : ms.length ≤ 1048576) (hs : ∀ m ∈ ms, m.e.small) (w0 w : World) (cs : List Plot) (hS : Sep w0 w cs) (hA : Asc w) (hE : Evs w p ms) :
    CallsR Tryd.prog 18 #[.slice p ms.length c] w fun v w' => ∃ q cc, v = .tuple #[.slice q (openS (lkR (evs ms))).length cc, int (lkR (evs ms)).err] ∧ Frm w w' ∧ Sep w0 w' (pRow 4 q (openS (lkR (evs ms))).length cc (((openS (lkR (evs ms))).reverse.map closeM).flatMap EvM.cells) :: cs) := by
  have hS0 := hS
  replace hS := Sep.start w
  have hlen := openS_len ms
  refine enter (l := [.slice p ms.length c]) Tryd.func18 rfl Tryd.ntmps18 (by kernel_rfl) rfl ?_
  refine sgo ?_
  refine wlcall (open_ok2 ms p c hn hs w w [] hS hA hE) ?_
  rintro _ w1 ⟨q, cc, rfl, -, hS⟩
  generalize openS (lkR (evs ms)) = st at *
  generalize (lkR (evs ms)).err = er at *
  refine sgo ?_
  refine salloc hS fun b6 w6 hS => ?_
  replace hS : Sep w w6 [pOwn b6 [.slice none 0 0], pRow 1 q st.length cc (strs st)] := hS
  refine sgo ?_
  refine wlcall (back_ok q st.length cc w w6 _ hS) ?_
  rintro _ w7 ⟨b, rfl, -, hS⟩
  refine sgo ?_
  refine wcrangef (cap := [ptrAt (pb b) 0]) rfl rfl ?_
  intro fn lr D w8 hD hlr hne hf8 hL hN
  replace hS := hS.loop hf8 hL hN hlr hD hne
  replace hS := (hS.push (c := pRow 4 none 0 0 []) (Frm.refl w8) (Row.nil w8 4) (by simp [pRow, rb]))
  refine CallsR.mono (back1_ok lr b st q cc (by omega)
    (fun i w' => i ≤ st.length ∧ ∃ q3 c3, Sep w w' [pRow 4 q3 i c3 (((st.reverse.take i).map closeM).flatMap EvM.cells), pLoop lr _, pDef D, pOwn b [.slice q st.length cc], pOwn b6 [.slice q3 i c3], pRow 1 q st.length cc (strs st)])
    (fun _ _ => False) ?_ ?_ w8 ⟨Nat.zero_le _, none, 0, hS⟩) ?_
  · rintro i w' ⟨_, q3, c3, hS⟩
    exact ⟨hS.own 3 rfl, (hS.row 5 rfl).sg⟩
  · rintro i w' x ⟨hi, q3, c3, hS⟩ hlt hx
    refine yld_of (hS.loopAt 1 rfl) rfl (by kernel_rfl) ?_
    refine sgo ?_
    refine ⟨hS.loopAt 1 rfl, fun w5 hl5 hL5 => ?_⟩
    replace hS := hS.turnLoop 1 rfl hl5 hL5
    refine sgo ?_
    refine wlbuild ?_
    refine sb1a (vs := (closeM x).cells) hS fun b9 w9 hS => ?_
    refine sapp hS 1 (hS.own 0 rfl).sg (fun q4 c4 w10 hS => ?_) (h1 := ev_one _ _ _)
    replace hS := hS.tail
    rw [closeM_flat, show (st.reverse.take i ++ [x]) = st.reverse.take (i + 1) from by rw [List.take_add_one, hx]; rfl] at hS
    refine sst_slice hS 4 fun w11 hS => ?_
    refine sgo ?_
    refine rnd_normal (hS.loopAt 1 rfl) fun w12 hl12 hL12 => ?_
    exact ⟨hlt, q4, c4, hS.turnLoop 1 rfl hl12 hL12⟩
  · rintro v w4 hor
    obtain ⟨_, q3, c3, hS⟩ := hor.resolve_right fun ⟨_, _, h⟩ => h
    refine ⟨.ready, none, by simp, hS.loopAt 1 rfl, fun w5 hl5 => aft_none ?_⟩
    rw [← List.length_reverse, List.take_length] at hS
    rw [List.length_reverse] at hS
    replace hS := Sep.lose (hS.front 1 rfl) hl5
    refine sgo ?_
    refine fp_mark (.inl rfl) (hS.noDef 1 rfl) ?_
    (first | refine fp1 (.inl rfl) rfl rfl ?_ | refine fp2 (.inl rfl) rfl rfl rfl ?_ | refine fp3 (.inl rfl) rfl rfl rfl rfl ?_ | refine fp0 (.inr rfl) rfl ?_ | refine fp0 (.inl rfl) rfl ?_ | refine fp1 (.inr rfl) rfl rfl ?_)
    replace hS := (hS.front 1 rfl).undef
    exact ⟨q3, c3, rfl, hS.frm, hS0.seq (ds := [_]) (hS.sub (List.Sublist.cons_cons _ (List.nil_sublist _)))⟩
end Go.Proofs.YthgbpgjpnaanlaaDoor

/-
  Events as lines, many, and read back; what closes events: plain laws.
-/
set_option linter.unusedSimpArgs false
set_option linter.unusedVariables false
set_option linter.unnecessarySimpa false
namespace Go.Proofs.YthgbpgjpnaanlaaDoor
open Go Go.Sv Go.RowKit

theorem evLine_no {e : Ev} (h : evR e = true) : ∀ c ∈ evLine e, c.toNat ≠ 10 := by
  obtain ⟨X, h1, h2⟩ := evLine_eq h
  have hX : ∀ c ∈ X, c.toNat ≠ 10 := fun c hc => line_no (evTok e) c (by rw [h2]; simp [hc])
  have key : ∀ w : List UInt8, (w.all fun x => !decide (x.toNat = 10)) = true → ∀ x ∈ w, x.toNat ≠ 10 := fun w hw x hx => by
    have := List.all_eq_true.1 hw x hx; simpa using this
  have hk := evR_kind h
  intro c hc
  rw [h1, List.mem_append, List.mem_cons] at hc
  rcases hc with hc | rfl | hc
  · rcases hk with hk | hk | hk | hk <;> rw [hk] at hc <;> exact key _ (by decide) c hc
  · decide
  · exact hX c hc
def evLn (e : Ev) : List UInt8 := evLine e ++ [10]
def evLns (l : List Ev) : List UInt8 := l.flatMap evLn
theorem lines_evLns : ∀ l : List Ev, (∀ e ∈ l, evR e = true) → linesR (evLns l) = l.map evLine
  | [], _ => rfl
  | e :: l, h => by
    have e1 : evLns (e :: l) = evLine e ++ 10 :: evLns l := by unfold evLns; rw [List.flatMap_cons]; unfold evLn; simp
    have ih := lines_evLns l fun x hx => h x (List.mem_cons_of_mem _ hx)
    unfold linesR at ih ⊢
    rw [e1, linesG_one _ _ _ (evLine_no (h e (by simp))), ih]
    rfl
def evPF : Nat → List (List UInt8) → List Ev → List Ev × Nat
  | _, [], acc => (acc, 0)
  | n, x :: ls, acc => match evRead x with | none => ([], n) | some e => evPF (n + 1) ls (acc ++ [e])
/-- the events of lines, and the number of the first line that is wrong -/
def evPR (s : List UInt8) : List Ev × Nat := evPF 1 (linesR s) []
theorem evPF_back : ∀ (l : List Ev) (n : Nat) (acc : List Ev), (∀ e ∈ l, evR e = true) → evPF n (l.map evLine) acc = (acc ++ l, 0)
  | [], n, acc, _ => by simp [evPF]
  | e :: l, n, acc, h => by
    rw [List.map_cons, evPF, evRead_back (h e (by simp))]
    dsimp only
    rw [evPF_back l _ _ fun x hx => h x (List.mem_cons_of_mem _ hx), List.append_assoc]
    rfl
theorem evPR_back {l : List Ev} (h : ∀ e ∈ l, evR e = true) : evPR (evLns l) = (l, 0) := by
  unfold evPR
  rw [lines_evLns l h, evPF_back l 1 [] h, List.nil_append]
/-! ## what is closed -/
theorem lk_all {l : List Ev} (h : (lkR l).err = 0) : ∀ e ∈ l, evR e = true := by
  intro e he
  obtain ⟨i, hi, rfl⟩ := List.mem_iff_getElem.1 he
  have hp : ∀ j, (lkR (l.take j)).err = 0 := fun j => by
    rcases Classical.em ((lkR (l.take j)).err = 0) with h0 | h0
    · exact h0
    · rw [lk_stop h0] at h; exact absurd h h0
  have h1 := hp (i + 1)
  rw [lk_take (List.getElem?_eq_getElem hi)] at h1
  exact (lk_right (hp i) h1).1
theorem close_may {e : Ev} (h : evR e = true) (hk : e.kind = 1) : evR (closeE e.name) = true := by
  unfold evR at h
  rw [if_neg (by omega), if_pos hk] at h
  simp only [Bool.and_eq_true] at h
  have h2 := h.1.2
  unfold mayR at h2
  have ek : e.start.kind = 1 := rfl
  rw [ek, if_neg (by decide), if_pos rfl] at h2
  simp only [Bool.and_eq_true] at h2
  have h3 : nameR false e.name = true := h2.1
  unfold evR closeE
  dsimp only
  rw [if_neg (by decide), if_neg (by decide), if_neg (by decide), if_pos rfl]
  unfold mayR Ev.close
  dsimp only
  rw [if_neg (by decide), if_neg (by decide), if_pos rfl]
  simp [h3]
theorem stack_may (l : List Ev) : ∀ n ∈ (lkR l).stack, evR (closeE n) = true := by
  have key : ∀ (l : List Ev) (k : Lk), (∀ n ∈ k.stack, evR (closeE n) = true) → ∀ n ∈ (l.foldl lkStep k).stack, evR (closeE n) = true := by
    intro l
    induction l with
    | nil => intro k hk; exact hk
    | cons e l ih =>
      intro k hk
      refine ih _ ?_
      unfold lkStep
      split
      · split
        · rename_i he
          split
          · rename_i h1
            intro n hn
            rcases List.mem_append.1 hn with hn | hn
            · exact hk n hn
            · rw [List.mem_singleton.1 hn]; exact close_may he h1
          split
          · exact hk
          split
          · split
            · intro n hn; exact hk n (List.dropLast_subset _ hn)
            · exact hk
          · exact hk
        · exact hk
      · exact hk
  exact key l lk0 (by intro n hn; cases hn)
theorem lk_close : ∀ (st : List (List UInt8)) (k : Lk), k.err = 0 → k.stack = st.reverse → (∀ n ∈ st, evR (closeE n) = true) → ((st.map closeE).foldl lkStep k).err = 0 ∧ ((st.map closeE).foldl lkStep k).stack = []
  | [], k, h0, hs, _ => ⟨h0, hs⟩
  | n :: st, k, h0, hs, hm => by
    rw [List.reverse_cons] at hs
    have he := hm n (by simp)
    have hst : lkStep k (closeE n) = ⟨k.stack.dropLast, k.most, 0, 0, k.good + 1⟩ := by
      have ek : (closeE n).kind = 2 := rfl
      rw [lkStep, if_pos h0, if_pos he, ek, if_neg (by decide), if_neg (by decide), if_pos rfl, if_pos (by rw [hs]; simp [closeE])]
    rw [List.map_cons, List.foldl_cons, hst]
    exact lk_close st _ rfl (by dsimp only; rw [hs, List.dropLast_concat]) fun x hx => hm x (List.mem_cons_of_mem _ hx)
theorem lk_closed {l : List Ev} (h : (lkR l).err = 0) : (lkR (l ++ (lkR l).stack.reverse.map closeE)).err = 0 ∧ (lkR (l ++ (lkR l).stack.reverse.map closeE)).stack = [] := by
  have e : lkR (l ++ (lkR l).stack.reverse.map closeE) = ((lkR l).stack.reverse.map closeE).foldl lkStep (lkR l) := by
    conv => lhs; rw [lkR, List.foldl_append]
    rfl
  rw [e]
  exact lk_close _ _ h (by rw [List.reverse_reverse]) fun n hn => stack_may l n (List.mem_reverse.1 hn)
end Go.Proofs.YthgbpgjpnaanlaaDoor

/-
  Ranges over maps that the loop leaves alone.
-/
set_option linter.unusedSimpArgs false
set_option linter.unusedVariables false
set_option linter.unnecessarySimpa false
namespace Go.Sv
open Go Go.RowKit

/-- a range over the map in block m, its iterator in block r: these entries are still to come, in whatever order -/
def MIt (w : World) (r m : Nat) (left : List (Value × Value)) : Prop :=
  ∃ es since seen c0 clock, w.heap[r]? = some (.mapIter (some m) since seen c0) ∧ w.heap[m]? = some (.map es clock) ∧ (∀ x ∈ es.toList, x.born < since) ∧ since ≤ c0 ∧ (es.toList.map (·.born)).Nodup ∧ since ≤ clock ∧
    (leftOf es seen).toList.map (fun e => (e.key, e.val)) = left
section
variable {P : Program} {n : Nat} {ds : Ctx} {ops : Array Oper} {Q : Exit → Ctx → Env → World → Prop} {rest : List Oper} {σ : GE} {w w' : World} {d r m : Nat} {t k e ty : TypeId} {pos : String} {af : Array Edge} {x : Operand} {left : List (Value × Value)} {M : List Nat}
theorem MIt.lt (h : MIt w r m left) : r < w.heap.size ∧ m < w.heap.size := by
  obtain ⟨es, since, seen, c0, clock, h1, h2, _⟩ := h
  exact ⟨(Array.getElem?_eq_some_iff.1 h1).1, (Array.getElem?_eq_some_iff.1 h2).1⟩
theorem MIt.le (h : MIt w r m left) (hl : Le M w w') (hr : r ∉ M) (hm : m ∉ M) : MIt w' r m left := by
  obtain ⟨l1, l2⟩ := h.lt
  obtain ⟨es, since, seen, c0, clock, h1, h2, h3⟩ := h
  exact ⟨es, since, seen, c0, clock, (hl.block r l1 hr).trans h1, (hl.block m l2 hm).trans h2, h3⟩
theorem MIt.frm (h : MIt w r m left) (hf : Frm w w') : MIt w' r m left := h.le (M := []) hf.le (by simp) (by simp)
/-- the round's entry -/
def MCur (w : World) (r m : Nat) (kv : Value × Value) : Prop :=
  ∃ (es : Array MapEntry) (since : Nat) (seen : Array Nat) (clock : Nat) (e : MapEntry), w.heap[r]? = some (.mapIter (some m) since (seen.push e.born) clock) ∧ w.heap[m]? = some (.map es clock) ∧ e ∈ es.toList ∧ (es.toList.map (·.born)).Nodup ∧ (e.key, e.val) = kv
theorem wlentry {kv : Value × Value} (hc : MCur w r m kv) (h : WL P n ds ops Q rest (real (updG σ d ⟨.tuple #[kv.1, kv.2], true⟩)) w) (hx : evl (real σ) x = .pointer (pb r) := by rfl) :
    WL P n ds ops Q (⟨some d, .entry x, ty, pos, af, none⟩ :: rest) (real σ) w := by
  obtain ⟨es, since, seen, clock, e, h1, h2, h3, h4, rfl⟩ := hc
  refine wl h (Y.val ?_)
  simp only [execOp, hx, Sem.run_bind]
  rw [show (Instr.entry (.pointer (pb r))).run P w = _ from run_entry_at w r m since seen es clock e h1 h2 h3 h4]
  rfl
/-- the loop's start -/
theorem wlrangem {es : Array MapEntry} {clock : Nat} (hu : P.underlying t = some (.map k e)) (hm : w.heap[m]? = some (.map es clock)) (hb : ∀ x ∈ es.toList, x.born < clock) (hn : (es.toList.map (·.born)).Nodup)
    (h : ∀ r w', w.heap.size ≤ r → MIt w' r m (es.toList.map fun e => (e.key, e.val)) → Frm w w' → WL P n ds ops Q rest (real (updG σ d ⟨.pointer (pb r), true⟩)) w') (hx : evl (real σ) x = .map (some m) := by rfl) :
    WL P n ds ops Q (⟨some d, .range t x, ty, pos, af, none⟩ :: rest) (real σ) w := by
  have hlt : m < w.heap.size := (Array.getElem?_eq_some_iff.1 hm).1
  refine wl (h w.heap.size (w.alloc (.mapIter (some m) clock #[] clock)) (Nat.le_refl _) ⟨es, clock, #[], clock, clock, Go.heap_alloc_new w _, ?_, hb, Nat.le_refl _, hn, Nat.le_refl _, ?_⟩ (frm_alloc _ _)) (Y.val ?_)
  · rw [Go.heap_alloc_old w _ hlt]; exact hm
  · congr 1
    unfold leftOf
    simp
  · simp only [execOp, hx, Sem.run_bind]
    rw [run_range_map w t k e m es clock hu hm]
    rfl
/-- the next entry, whichever, or the end -/
theorem wlnextm (hi : MIt w r m left) (hno : left = [] → WL P n ds ops Q rest (real (updG σ d ⟨.tuple #[.bool false], true⟩)) w)
    (hyes : ∀ kv left' w', kv ∈ left → left'.length < left.length → (∀ y ∈ left', y ∈ left) → (∀ y ∈ left, y = kv ∨ y ∈ left') → MIt w' r m left' → MCur w' r m kv → Le [r] w w' → WL P n ds ops Q rest (real (updG σ d ⟨.tuple #[.bool true, kv.1, kv.2], true⟩)) w')
    (hx : evl (real σ) x = .pointer (pb r) := by rfl) :
    WL P n ds ops Q (⟨some d, .next x false, ty, pos, af, none⟩ :: rest) (real σ) w := by
  have hlt := hi.lt
  obtain ⟨es, since, seen, c0, clock, h1, h2, h3, h4, h5, h6, h7⟩ := hi
  rcases run_next_at (P := P) w ty r m since c0 seen es clock h1 h2 h3 h4 with ⟨hz, hrun⟩ | ⟨e, he, w1, hw1, hrun⟩
  · refine wl (hno ?_) (Y.val ?_)
    · rw [← h7]
      have : (leftOf es seen).toList = [] := List.eq_nil_of_length_eq_zero (by simpa using hz)
      rw [this]; rfl
    · simp only [execOp, hx, Sem.run_bind]
      rw [show (Instr.next (.pointer (pb r)) false ty).run P w = _ from hrun]
      rfl
  · have hrm : r ≠ m := by rintro rfl; rw [h1] at h2; cases h2
    have heL : e ∈ (leftOf es seen).toList := he
    have hmem : ∀ (sn : Array Nat) (y : MapEntry), y ∈ (leftOf es sn).toList ↔ y ∈ es.toList ∧ sn.contains y.born = false := fun sn y => by
      unfold leftOf
      rw [Array.toList_filter, List.mem_filter, Bool.not_eq_true']
    have hpush : ∀ y : Nat, (seen.push e.born).contains y = (seen.contains y || y == e.born) := fun y => by
      rw [Bool.eq_iff_iff]
      simp only [Array.contains_iff_mem, Array.mem_push, Bool.or_eq_true, beq_iff_eq]
    have he0 := (hmem _ _).1 heL
    have hlen : ((leftOf es (seen.push e.born)).toList).length < ((leftOf es seen).toList).length := by
      unfold leftOf
      rw [Array.toList_filter, Array.toList_filter]
      refine filter_lt _ _ (fun y hy => ?_) e ?_ ?_ es.toList he0.1
      · rw [hpush] at hy; simp at hy ⊢; exact hy.1
      · rw [he0.2]; rfl
      · rw [hpush]; simp
    have hw1h : w1.heap = w.heap := by rcases hw1 with rfl | rfl <;> rfl
    have hr1 : r < w1.heap.size := by rw [hw1h]; exact hlt.1
    have hs1 : ∀ o, (ChangeMaps.setBlock w1 r o).heap[r]? = some o := fun o => by
      unfold ChangeMaps.setBlock
      dsimp only
      rw [Array.getElem?_setIfInBounds_self_of_lt hr1]
    have hs2 : ∀ o i, i ≠ r → (ChangeMaps.setBlock w1 r o).heap[i]? = w.heap[i]? := fun o i hi => by
      unfold ChangeMaps.setBlock
      dsimp only
      rw [Array.getElem?_setIfInBounds_ne (fun h => hi h.symm), hw1h]
    refine wl (hyes (e.key, e.val) ((leftOf es (seen.push e.born)).toList.map fun e => (e.key, e.val)) (ChangeMaps.setBlock w1 r (.mapIter (some m) since (seen.push e.born) clock)) ?_ ?_ ?_ ?_ ?_ ?_ ?_) (Y.val ?_)
    · rw [← h7]; exact List.mem_map.2 ⟨e, heL, rfl⟩
    · rw [← h7, List.length_map, List.length_map]; exact hlen
    · intro y hy
      obtain ⟨z, hz, rfl⟩ := List.mem_map.1 hy
      rw [← h7]
      refine List.mem_map.2 ⟨z, ?_, rfl⟩
      obtain ⟨z1, z2⟩ := (hmem _ _).1 hz
      rw [hpush, Bool.or_eq_false_iff] at z2
      exact (hmem _ _).2 ⟨z1, z2.1⟩
    · intro y hy
      rw [← h7] at hy
      obtain ⟨z, hz, rfl⟩ := List.mem_map.1 hy
      obtain ⟨z1, z2⟩ := (hmem _ _).1 hz
      by_cases hb : z.born = e.born
      · left
        have : z = e := by
          have f1 := find_born z es.toList h5 z1
          have f2 := find_born e es.toList h5 he0.1
          rw [hb, f2] at f1
          exact (Option.some.inj f1).symm
        rw [this]
      · right
        refine List.mem_map.2 ⟨z, (hmem _ _).2 ⟨z1, ?_⟩, rfl⟩
        rw [hpush, z2, Bool.false_or, beq_eq_false_iff_ne]
        exact hb
    · exact ⟨es, since, seen.push e.born, clock, clock, hs1 _, by rw [hs2 _ m (Ne.symm hrm)]; exact h2, h3, h6, h5, h6, rfl⟩
    · exact ⟨es, since, seen, clock, e, hs1 _, by rw [hs2 _ m (Ne.symm hrm)]; exact h2, he0.1, h5, rfl⟩
    · refine ⟨?_, ?_, ?_, ?_, fun i _ hi => hs2 _ i (by simpa using hi)⟩
      · rcases hw1 with rfl | rfl <;> rfl
      · rcases hw1 with rfl | rfl <;> rfl
      · rcases hw1 with rfl | rfl <;> rfl
      · unfold ChangeMaps.setBlock; dsimp only; rw [hw1h]; simp
    · simp only [execOp, hx, Sem.run_bind]
      rw [show (Instr.next (.pointer (pb r)) false ty).run P w = _ from hrun]
      rfl
end
end Go.Sv

/-
  Maps with keys that are numbers.
-/
set_option linter.unusedSimpArgs false
set_option linter.unusedVariables false
set_option linter.unnecessarySimpa false
namespace Go.Sv
open Go Go.RowKit

def IMap (w : World) (m : Nat) (kv : List (Int × Value)) : Prop :=
  ∃ es clock, w.heap[m]? = some (.map es clock) ∧ es.toList.map (fun e => (e.key, e.val)) = kv.map (fun x => (Value.int .i64 x.1, x.2)) ∧ (∀ x ∈ es.toList, x.born < clock) ∧ (es.toList.map (·.born)).Nodup
section
variable {P : Program} {w w' : World} {m : Nat} {kv : List (Int × Value)} {s : Int}
theorem IMap.lt (h : IMap w m kv) : m < w.heap.size := by
  obtain ⟨es, cl, h, _⟩ := h
  exact (Array.getElem?_eq_some_iff.1 h).1
theorem IMap.le {M : List Nat} (h : IMap w m kv) (hl : Le M w w') (hm : m ∉ M) : IMap w' m kv := by
  have := h.lt
  obtain ⟨es, cl, h, h2⟩ := h
  exact ⟨es, cl, by rw [hl.block m this hm]; exact h, h2⟩
theorem IMap.frm (h : IMap w m kv) (hl : Frm w w') : IMap w' m kv := h.le (M := []) hl.le (by simp)
theorem same_int {k : IntKind} (a b : Int) : Instr.sameNow (.int k) (.int .i64 a) (.int .i64 b) = some (decide (a = b)) := by
  simp only [Instr.sameNow, if_true]
  congr 1
theorem find_ikv {k : IntKind} : ∀ (es : List MapEntry) (kv : List (Int × Value)) (i : Nat), es.map (fun e => (e.key, e.val)) = kv.map (fun x => (Value.int .i64 x.1, x.2)) →
    ∃ r, Instr.findNow (.int k) (.int .i64 s) es i = some r ∧ r.map (·.2) = kv.lookup s
  | [], kv, i, h => by
    have : kv = [] := by simpa using h.symm
    subst this
    exact ⟨none, rfl, rfl⟩
  | e :: es, [], i, h => by simp at h
  | e :: es, x :: kv, i, h => by
    simp only [List.map_cons, List.cons.injEq, Prod.mk.injEq] at h
    obtain ⟨⟨h1, h2⟩, h3⟩ := h
    obtain ⟨r, hr, hr2⟩ := find_ikv (k := k) es kv (i + 1) h3
    simp only [Instr.findNow, h1, same_int]
    by_cases e1 : s = x.1
    · rw [decide_eq_true e1]
      refine ⟨some (i, e.val), rfl, ?_⟩
      subst e1
      simp [List.lookup, h2]
    · rw [decide_eq_false e1]
      refine ⟨r, hr, ?_⟩
      have : (s == x.1) = false := by simpa using e1
      rw [hr2]
      simp [List.lookup, this]
variable {σ : Env} {d : Option Tmp} {ty t t' kt vt : TypeId} {pos : String} {af : Array Edge} {g : Option (Nat × Bool)} {x y z : Operand} {zv : Value} {size bytes : Nat} {k : IntKind}
theorem y_ilookup [hu : Und P t (.map kt vt)] [hk : Und P kt (.int .i64)] [hi : Inf P vt zv size bytes] (hx : evl σ x = .map (some m)) (hy : evl σ y = .int .i64 s) (hm : IMap w m kv) :
    Y P σ ⟨d, .lookup t x y false, ty, pos, af, g⟩ w ((kv.lookup s).getD zv) w := by
  refine Y.val ?_
  obtain ⟨es, cl, h1, h2, _⟩ := hm
  obtain ⟨r, hr, hr2⟩ := find_ikv (k := .i64) (s := s) es.toList kv 0 h2
  have hc := MapKept.run_checkKey (P := P) (w := w) (k := .int .i64 s) hk.ok (by simp [MapKept.IsKey]) es.isEmpty 9999
  have hf := MapKept.run_findKey (P := P) (w := w) (kt := kt) hk.ok hr
  rw [← hr2]
  simp only [execOp, hx, hy, Instr.lookup, Sem.run_bind, underlying, run_program, Result.andThen_ok, hu.ok, Sem.run_pure, MapKept.run_getObj_map h1, hc, hf]
  cases r with
  | none => simp [run_zeroValue (P := P) (t := vt)]
  | some r => simp
theorem run_imapnew [hu : Und P t (.map kt vt)] [hk : Und P kt (.int .i64)] {v : Value} (hm : IMap w m kv) (hn : kv.lookup s = none) :
    ∃ w', (Instr.mapUpdate t (.map (some m)) (.int .i64 s) v).run P w = .ok () w' ∧ IMap w' m (kv ++ [(s, v)]) ∧ Le [m] w w' := by
  obtain ⟨es, cl, h1, h2, h3, h4⟩ := hm
  obtain ⟨r, hr, hr2⟩ := find_ikv (k := .i64) (s := s) es.toList kv 0 h2
  obtain rfl : r = none := by rw [hn] at hr2; simpa using hr2
  have hc := MapKept.run_checkKey (P := P) (w := w) (k := .int .i64 s) hk.ok (by simp [MapKept.IsKey]) false 9999
  have hf := MapKept.run_findKey (P := P) (w := w) (kt := kt) hk.ok hr
  have hs := MapKept.heap_set (o' := .map (es.push ⟨.int .i64 s, v, cl⟩) (cl + 1)) h1
  refine ⟨{ w with heap := w.heap.setIfInBounds m (.map (es.push ⟨.int .i64 s, v, cl⟩) (cl + 1)) }, ?_, ⟨_, _, hs.1, by simp [h2], ?_, ?_⟩, ⟨rfl, rfl, rfl, by simp, fun k _ hkm => hs.2 k (by simpa using hkm)⟩⟩
  · simp only [Instr.mapUpdate, Sem.run_bind, underlying, run_program, Result.andThen_ok, hu.ok, Sem.run_pure, MapKept.run_getObj_map h1, hc, hf, MapKept.run_setObj_map _ h1]
  · intro x hx
    rw [Array.toList_push, List.mem_append, List.mem_singleton] at hx
    rcases hx with hx | rfl
    · have := h3 x hx; omega
    · exact Nat.lt_succ_self _
  · rw [Array.toList_push, List.map_append, List.nodup_append]
    refine ⟨h4, by simp, fun a ha b hb hab => ?_⟩
    obtain ⟨x, hx, rfl⟩ := List.mem_map.1 ha
    have hb' : b = cl := by simpa using hb
    have := h3 x hx
    omega
end
section
variable {P : Program} {n : Nat} {ds : Ctx} {ops : Array Oper} {Q : Exit → Ctx → Env → World → Prop} {rest : List Oper} {σ : GE} {w : World} {v : Value} {d m : Nat} {ty t kt vt : TypeId} {pos : String} {af : Array Edge} {x y z : Operand} {kv : List (Int × Value)} {s : Int} {k : IntKind} {zv : Value} {size bytes : Nat}
theorem wlimap (h : ∀ m w', w.heap.size ≤ m → IMap w' m [] → Frm w w' → WL P n ds ops Q rest (real (updG σ d ⟨.map (some m), true⟩)) w') :
    WL P n ds ops Q (⟨some d, .makeMap t none, ty, pos, af, none⟩ :: rest) (real σ) w := by
  refine wl (h w.heap.size (w.alloc (.map #[] 0)) (Nat.le_refl _) ⟨#[], 0, Go.heap_alloc_new w _, rfl, by simp, by simp⟩ (frm_alloc _ _)) ?_
  refine Y.val ?_
  simp [execOp, Instr.makeMap, newObj]
  rfl
/-- .. in a literal -/
theorem wliins [hu : Und P t (.map kt vt)] [hk : Und P kt (.int .i64)] (hm : IMap w m kv) (hn : kv.lookup s = none) (h : ∀ w', IMap w' m (kv ++ [(s, v)]) → Le [m] w w' → WL P n ds ops Q rest (real σ) w')
    (hx : evl (real σ) x = .map (some m) := by rfl) (hy : evl (real σ) y = .int .i64 s := by rfl) (hz : evl (real σ) z = v := by rfl) :
    WL P n ds ops Q (⟨none, .insert t x y z, ty, pos, af, none⟩ :: rest) (real σ) w := by
  obtain ⟨w', h1, h2, h3⟩ := run_imapnew (P := P) (t := t) (v := v) hm hn
  refine wl0 (h w' h2 h3) (Y.skip ?_)
  simp only [execOp, hx, hy, hz]
  rw [Sem.run_bind, h1]
  rfl
theorem wlrangei (hu : P.underlying t = some (.map kt vt)) (hm : IMap w m kv) (h : ∀ r w', w.heap.size ≤ r → MIt w' r m (kv.map fun x => (Value.int .i64 x.1, x.2)) → Frm w w' → WL P n ds ops Q rest (real (updG σ d ⟨.pointer (pb r), true⟩)) w') (hx : evl (real σ) x = .map (some m) := by rfl) :
    WL P n ds ops Q (⟨some d, .range t x, ty, pos, af, none⟩ :: rest) (real σ) w := by
  obtain ⟨es, cl, h1, h2, h3, h4⟩ := hm
  refine wlrangem hu h1 h3 h4 (fun r w' hr hi hf => h r w' hr ?_ hf) hx
  rw [← h2]
  exact hi
end
def pIMap (m : Nat) (kv : List (Int × Value)) : Plot where
  foot := [m]
  ok w := IMap w m kv
  view := (none, [])
  loc _ _ h hb := by
    obtain ⟨es, cl, h1, h2⟩ := h
    exact ⟨es, cl, (hb m (by simp)).trans h1, h2⟩
  lt _ h x hx := by rw [List.mem_singleton.1 hx]; exact h.lt
  sg _ _ := .inl rfl
/-- a map that is ranged over, and the range -/
def pMIt (r m : Nat) (left : List (Value × Value)) : Plot where
  foot := [r, m]
  ok w := MIt w r m left
  view := (none, [])
  loc _ _ h hb := by
    obtain ⟨es, since, seen, c0, clock, h1, h2, h3⟩ := h
    exact ⟨es, since, seen, c0, clock, (hb r (by simp)).trans h1, (hb m (by simp)).trans h2, h3⟩
  lt _ h x hx := by
    simp only [List.mem_cons, List.not_mem_nil, or_false] at hx
    rcases hx with rfl | rfl
    · exact h.lt.1
    · exact h.lt.2
  sg _ _ := .inl rfl
end Go.Sv

/-
  Arrays written out; calls of function values in regions that draw.
-/
set_option linter.unusedSimpArgs false
set_option linter.unusedVariables false
set_option linter.unnecessarySimpa false
namespace Go.Sv
open Go Go.RowKit
section
variable {P : Program} {n : Nat} {ds : Ctx} {ops : Array Oper} {Q : Exit → Ctx → Env → World → Prop} {C : World → Prop} {QE : Env → Prop} {rest : List Oper} {σ : GE} {w : World} {v : Value} {d : Nat} {ty t e : TypeId} {pos : String} {af : Array Edge} {x : Operand} {xs : List Operand} {ats : Array TypeId} {zv : Value} {zs : List Value} {bytes bytes' k : Nat}
theorem y_arr {σ : Env} {d : Option Tmp} {g : Option (Nat × Bool)} {ps : List (Nat × Operand)} [hu : Und P t (.array k e)] [hi : Inf P e zv 1 bytes] [hj : Inf P t (.agg ⟨zs⟩) k bytes'] (vs : List Value)
    (hps : ps.map (fun p => (p.1, evl σ p.2)) = enum vs 0) (hk : vs.length = k) (hz : zs.length = k) (h1 : ∀ v ∈ vs, v.cells = #[v]) :
    Y P σ ⟨d, .build t ps.toArray, ty, pos, af, g⟩ w (.agg ⟨vs⟩) w := by
  refine Y.val ?_
  have hf := fill_enum vs 0 zs h1 (by omega)
  have hpa : (ps.toArray.map fun (x : Nat × Operand) => match x with | (i, x) => (i, evl σ x)).toList = enum vs 0 := by rw [← hps]; simp
  simp only [execOp, Instr.build, Sem.run_bind, run_zeroValue (P := P) (t := t), Result.andThen_ok, underlying, run_program, hu.ok, Sem.run_pure, run_sizeOf (P := P) (t := e), Value.cells]
  rw [hpa]
  simp only [Nat.mul_one] at hf ⊢
  rw [hf]
  rw [List.take_zero, List.nil_append, List.drop_eq_nil_of_le (by omega), List.append_nil]
  rfl
end
end Go.Sv

/-
  A builder as a piece of memory.
-/
set_option linter.unusedSimpArgs false
set_option linter.unusedVariables false
set_option linter.unnecessarySimpa false
namespace Go.Sv
open Go Go.RowKit
def pBld (T E : TypeId) (b : Nat) (q : Option Addr) (s : List UInt8) : Plot where
  foot := b :: rb q
  ok w := Bld T E w b q s
  view := (none, [])
  loc w w' h hb := by
    obtain ⟨pv, c, h⟩ := h
    refine ⟨pv, c, h.hp, (hb b List.mem_cons_self).trans h.cell, ⟨h.row.1, ?_⟩, h.ne⟩
    rcases h.row.2 with h1 | ⟨g, cap, cur, hv, h2, h3, h4⟩
    · exact .inl h1
    · exact .inr ⟨g, cap, cur, hv, h2, (hb g (List.mem_cons_of_mem _ (rb_own.1 (by rw [hv]; rfl)))).trans h3, h4⟩
  lt w h := h.lt
  sg _ _ := .inl rfl
section
variable {w0 w w' : World} {cs : List Plot} {T E : TypeId} {b : Nat} {q q' : Option Addr} {s s' : List UInt8}
theorem Sep.bld (h : Sep w0 w cs) (i : Nat) (hi : cs[i]? = some (pBld T E b q s)) : Bld T E w b q s := h.at (c := pBld T E b q s) i hi
theorem Sep.toBld (h : Sep w0 w cs) (i : Nat) (hi : cs[i]? = some (pBld T E b q s)) (hl : Lm (b :: rb q) w (b :: rb q') w') (hB : Bld T E w' b q' s') : Sep w0 w' (cs.set i (pBld T E b q' s')) :=
  h.upd (c := pBld T E b q s) (c' := pBld T E b q' s') i hi hl hB
/-- what is above a place is given away -/
theorem Sep.below {B : Nat} (h : Sep w0 w cs) (hB : w0.heap.size ≤ B) (hc : ∀ c ∈ cs, ∀ x ∈ c.foot, x < B) (hb : Below B w w') : Sep w0 w' cs :=
  ⟨Below.trans h.frm (hb.mono hB), fun c hcc => c.loc w w' (h.ok c hcc) fun x hx => hb.block x (hc c hcc x hx), h.low, h.apart⟩
end
end Go.Sv

/-
  Regions that draw their order, whatever they make: by a plan that says of each operation what it yields, makes and takes.
-/
set_option linter.unusedSimpArgs false
set_option linter.unusedVariables false
set_option linter.unnecessarySimpa false
namespace Go.Sv
open Go Go.RowKit

theorem Sep.perm {w0 w : World} {cs ds : List Plot} (h : Sep w0 w cs) (hp : cs.Perm ds) : Sep w0 w ds :=
  ⟨h.frm, fun c hc => h.ok c (hp.mem_iff.2 hc), fun c hc => h.low c (hp.mem_iff.2 hc), hp.pairwise h.apart fun h x hx hx' => h x hx' hx⟩
theorem filter_insert {α : Type} [DecidableEq α] {k : α} {q : α → Bool} (hq : q k = false) : ∀ {l : List α}, l.Nodup → k ∈ l → (l.filter fun j => decide (j = k) || q j).Perm (k :: l.filter q)
  | [], _, h => by cases h
  | x :: l, hn, hm => by
    rw [List.nodup_cons] at hn
    by_cases e : x = k
    · subst e
      have hrest : l.filter (fun j => decide (j = x) || q j) = l.filter q := by
        refine List.filter_congr fun j hj => ?_
        have : j ≠ x := fun h => hn.1 (h ▸ hj)
        simp [this]
      simp only [List.filter_cons, decide_true, Bool.true_or, if_true, hq, Bool.false_eq_true, if_false, hrest]
      exact List.Perm.refl _
    · have hm' : k ∈ l := by
        rcases List.mem_cons.1 hm with h | h
        · exact absurd h.symm e
        · exact h
      have ih := filter_insert hq hn.2 hm'
      simp only [List.filter_cons, decide_eq_false e, Bool.false_or]
      cases q x with
      | false => simpa using ih
      | true => simpa using (ih.cons x).trans (List.Perm.swap k x _)

structure Plan (D : Type) where
  val : Nat → D → Value
  pl : Nat → D → List Plot
  con : Nat → Option Nat
  fact : Nat → (Nat → D) → Prop
section
variable {D : Type}
def setD (a : Nat → D) (k : Nat) (d : D) : Nat → D := fun j => if j = k then d else a j
theorem setD_same (a : Nat → D) (k : Nat) (d : D) : setD a k d k = d := if_pos rfl
theorem setD_ne (a : Nat → D) {k j : Nat} (d : D) (h : j ≠ k) : setD a k d j = a j := if_neg h
def Plan.live (p : Plan D) (L : Nat → Bool) (j : Nat) : Bool := L j && (match p.con j with | some c => !L c | none => true)
def Plan.mem (p : Plan D) (n : Nat) (L : Nat → Bool) (a : Nat → D) : List Plot := ((List.range n).filter (p.live L)).flatMap fun j => p.pl j (a j)
/-- what operation k takes -/
def Plan.takes (p : Plan D) (n k : Nat) (a : Nat → D) : List Plot := ((List.range n).filter fun j => decide (p.con j = some k)).flatMap fun j => p.pl j (a j)
def Plan.S (p : Plan D) (w0 : World) (cs : List Plot) (σ0 : Env) (ops : List Oper) (L : Nat → Bool) (σ : Env) (w : World) : Prop :=
  (∀ s, (∀ (k : Nat) (o : Oper), ops[k]? = some o → o.dst ≠ some s) → σ s = σ0 s) ∧
  ∃ a : Nat → D, (∀ (k : Nat) (o : Oper), ops[k]? = some o → L k = true → (∀ d, o.dst = some d → σ d = p.val k (a k)) ∧ p.fact k a) ∧ Sep w0 w (p.mem ops.length L a ++ cs)
/-- how operation k goes, by the plan -/
def Plan.Rule (p : Plan D) (P : Program) (w0 : World) (cs : List Plot) (σ0 : Env) (ops : List Oper) (k : Nat) (o : Oper) : Prop :=
  ∀ (a : Nat → D) (σ : Env) (w : World) (rest : List Plot), (∀ s, (∀ (k : Nat) (o : Oper), ops[k]? = some o → o.dst ≠ some s) → σ s = σ0 s) →
    (∀ (j : Nat) (oj : Oper), bindsOn o j = true → ops[j]? = some oj → (∀ d, oj.dst = some d → σ d = p.val j (a j)) ∧ p.fact j a) → Sep w0 w (p.takes ops.length k a ++ (cs ++ rest)) →
    (Region.wanted o (yl ops.toArray σ) = true ∧ comes P (fun v w' => ∃ d, v = p.val k d ∧ p.fact k (setD a k d) ∧ Sep w0 w' (p.pl k d ++ (cs ++ rest))) ((execOp (evl σ) o).run P w)) ∨
    (Region.wanted o (yl ops.toArray σ) = false ∧ ∃ d, undef = p.val k d ∧ p.fact k (setD a k d) ∧ Sep w0 w (p.pl k d ++ (cs ++ rest)))
def Plan.Rules (p : Plan D) (P : Program) (w0 : World) (cs : List Plot) (σ0 : Env) (ops : List Oper) : Nat → List Oper → Prop
  | _, [] => True
  | k, o :: l => p.Rule P w0 cs σ0 ops k o ∧ p.Rules P w0 cs σ0 ops (k + 1) l
/-- the plan's book-keeping: whoever takes waits; targets differ -/
def planB (con : Nat → Option Nat) (ops : List Oper) : Bool :=
  (List.range ops.length).all fun j => (match con j with
    | some c => decide (c < ops.length) && (match ops[c]? with | some oc => bindsOn oc j | none => false)
    | none => true) && (List.range ops.length).all fun i => decide (i = j) || (match ops[i]?, ops[j]? with
      | some oi, some oj => (match oi.dst with | some d => decide (oj.dst ≠ some d) | none => true)
      | _, _ => true)
theorem comes_mono {P : Program} {T T' : Value → World → Prop} (h : ∀ v w, T v w → T' v w) : ∀ {r : Result Next}, comes P T r → comes P T' r := by
  intro r hr
  unfold comes at *
  split at hr
  · exact h _ _ hr
  · exact h _ _ hr
  · exact Calls.mono hr fun e w ⟨v, he, hv⟩ => ⟨v, he, h _ _ hv⟩
  · exact hr.elim
end
end Go.Sv
namespace Go.Sv
open Go Go.RowKit
theorem frameOf {σ : Env} (sl : List (Nat × Value)) (h : Has σ sl) : σ = real (updGL (lif σ) sl) := by rw [← real_updL, updL_has h]
theorem notDst {ops : List Oper} {s : Nat} (h : (ops.all fun o => decide (o.dst ≠ some s)) = true) : ∀ (k : Nat) (o : Oper), ops[k]? = some o → o.dst ≠ some s := fun k o hk =>
  of_decide_eq_true (List.all_eq_true.1 h o (List.mem_of_getElem? hk))
section
variable {D : Type} {P : Program} {w0 w w' : World} {cs rest : List Plot} {σ : Env} {d : Option Tmp} {op : Op} {ty : TypeId} {pos : String} {af : Array Edge} {v : Value} {k : Nat} {ops : Array Oper} {T : Value → World → Prop}
/-- an operation of a plan, that has no guard -/
theorem rule_y {B : Prop} {o : Oper} (hy : Y P σ o w v w') (hT : T v w') (hg : o.guard = none := by rfl) :
    (Region.wanted o (yl ops σ) = true ∧ comes P T ((execOp (evl σ) o).run P w)) ∨ B := .inl ⟨by simp [Region.wanted, hg], comes_of_Y hy hT⟩
theorem rule_call {B : Prop} {f : FuncId} [hf : Fnc P f] {args : List Operand} {ats : Array TypeId} {vals : List Value} {R : Value → World → Prop} (hc : CallsR P f vals.toArray w R) (hT : ∀ v w', R v w' → T v w') (ha : args.map (evl σ) = vals) :
    (Region.wanted (⟨d, .call ⟨.value (.func f), args.toArray, ats⟩, ty, pos, af, none⟩ : Oper) (yl ops σ) = true ∧ comes P T ((execOp (evl σ) ⟨d, .call ⟨.value (.func f), args.toArray, ats⟩, ty, pos, af, none⟩).run P w)) ∨ B := by
  refine .inl ⟨by simp [Region.wanted], ?_⟩
  rw [run_call_func]
  have : (args.toArray.map (evl σ)) = vals.toArray := by rw [← ha]; simp
  rw [this]
  exact Calls.mono hc fun e w'' ⟨v, he, hv⟩ => ⟨v, he, hT v w'' hv⟩
variable {t t' e e' : TypeId} {x y : Operand} {zv u : Value} {size bytes i m n c c' : Nat} {p q : Option Addr} {xs news vs : List Value}
/-- a slice written out, of one struct: its piece -/
theorem y_bs1 [hu : Und P t (.slice e)] [hi : Inf P e zv size bytes] (hS : Sep w0 w cs) (hx : evl σ x = .agg ⟨vs⟩) (hv : vs.length = size) (hz : zv.cells.size = size) (hsz : 0 < size) (hm : size ≤ 16777216) :
    ∃ b w', Y P σ ⟨d, .buildSlice t 1 #[(0, x)], ty, pos, af, none⟩ w (.slice (pb b) 1 1) w' ∧ Sep w0 w' (pOwn b vs :: cs) := by
  refine ⟨w.heap.size, w.alloc (.cells ⟨vs⟩ e), Y.val ?_, hS.push (frm_alloc _ _) (own_alloc _ _ _) (by simp [pOwn])⟩
  simp only [execOp, List.map_toArray, List.map_cons, List.map_nil, hx, Sem.run_bind]
  rw [run_buildSlice1 (P := P) (t := t) (e := e) hz (by simpa [Value.cells] using hv) hsz hm]
  rfl
/-- append to the i-th piece -/
theorem y_app [hu : Und P t (.slice e)] [hu' : Und P t' (.slice e')] [hi : Inf P e zv size bytes] (hS : Sep w0 w cs) (i : Nat) (hs : Sg w q news) (hc : cs[i]? = some (pRow size p m c xs)) (hx : evl σ x = .slice p m c) (hy : evl σ y = .slice q n c') (hl : news.length = n * size)
    (h1 : ∀ u ∈ news, u.oneCell' = true) (hz : zv.cells.size = size) (hsz : 0 < size) (hb : (m + n) * bytes ≤ 140737488355328 ∧ m + n ≤ 9223372036854775807) :
    ∃ p' c2 w', Y P σ ⟨d, .call ⟨.builtin .append, #[x, y], #[t, t']⟩, ty, pos, af, none⟩ w (.slice p' (m + n) c2) w' ∧ Sep w0 w' (cs.set i (pRow size p' (m + n) c2 (xs ++ news))) := by
  obtain ⟨p', c2, w', h2, h3, h4⟩ := run_append_row (P := P) (t := t) (tx := t') (ty := ty) (e := e) hz hsz (hS.row i hc) (src_of_sg (tx := t') (c := c') hs hl h1) hb.2 hb.1
  exact ⟨p', c2, w', run_append_op hx hy h2, hS.upd i hc h4 h3⟩
end
end Go.Sv

/-
  Structs of texts, numbers and bools compared.
-/
set_option linter.unusedSimpArgs false
set_option linter.unusedVariables false
set_option linter.unnecessarySimpa false
namespace Go.Sv
open Go Go.RowKit
def plainB (P : Program) : List Field → Nat → List TypeDesc → Bool
  | [], _, [] => true
  | f :: fs, k, d :: ds => (f.name != "_") && (f.offset == k) && (match P.underlying f.type, d with
    | some .string, .string => true
    | some .bool, .bool => true
    | some (.int a), .int b => kEq a b
    | _, _ => false) && plainB P fs (k + 1) ds
  | _, _, _ => false
/-- a struct whose fields are one cell each: texts, bools, numbers -/
class PlainS (P : Program) (t : TypeId) (ds : outParam (List TypeDesc)) : Prop where
  ok : ∃ fs, P.underlying t = some (.struct fs) ∧ plainB P fs.toList 0 ds = true ∧ P.stoodInHeld t = false ∧ P.eqGuardType P.depth t = false
/-- are two structs the same? -/
def eqL : List TypeDesc → List Value → List Value → Option Bool
  | [], [], [] => some true
  | .string :: ds, .string ⟨⟨a⟩⟩ :: xs, .string ⟨⟨b⟩⟩ :: ys => match eqL ds xs ys with | some r => some (decide (a = b) && r) | none => none
  | .bool :: ds, .bool a :: xs, .bool b :: ys => match eqL ds xs ys with | some r => some (decide (a = b) && r) | none => none
  | .int k :: ds, .int k1 a :: xs, .int k2 b :: ys => match kEq k k1, kEq k k2, eqL ds xs ys with | true, true, some r => some (decide (a = b) && r) | _, _, _ => none
  | _, _, _ => none
section
variable {P : Program} {w : World}
theorem run_part {t : TypeId} {d : TypeDesc} (hu : P.underlying t = some d) (hd : (match d with | .struct _ | .array _ _ => true | _ => false) = false) {cs : Array Value} {off : Nat} {v : Value} (hv : cs[off]? = some v) : (part t cs off).run P w = .ok v w := by
  have hi : (isAgg t).run P w = .ok false w := by
    simp only [isAgg, underlying, Sem.run_bind, run_program, Result.andThen_ok, hu, Sem.run_pure]
    rw [← hd]
    cases d <;> rfl
  simp [part, hi, hv]
theorem str_beq (a b : List UInt8) : ((ByteArray.mk ⟨a⟩).toList == (ByteArray.mk ⟨b⟩).toList) = decide (a = b) := by
  rw [ByteArray.toList_eq, ByteArray.toList_eq]
  exact lbeq a b
theorem eqFields_plain (d : Nat) (X Y : Array Value) : ∀ (fs : List Field) (k : Nat) (ds : List TypeDesc) (xs ys : List Value) (r : Bool), plainB P fs k ds = true → X.toList.drop k = xs → Y.toList.drop k = ys → eqL ds xs ys = some r →
    (Op.eqFields (d + 1) X Y fs).run P w = .ok r w := by
  intro fs
  induction fs with
  | nil =>
    intro k ds xs ys r hp hX hY he
    cases ds with
    | nil =>
      cases xs <;> cases ys <;> simp [eqL] at he
      subst he; rfl
    | cons d ds => simp [plainB] at hp
  | cons f fs ih =>
    intro k ds xs ys r hp hX hY he
    cases ds with
    | nil => simp [plainB] at hp
    | cons d0 ds =>
      simp only [plainB, Bool.and_eq_true] at hp
      obtain ⟨⟨⟨hn, ho⟩, ht⟩, hp⟩ := hp
      have hn' : f.name ≠ "_" := by simpa using hn
      have ho' : f.offset = k := by simpa using ho
      have tailX : ∀ v l, xs = v :: l → X[k]? = some v ∧ X.toList.drop (k + 1) = l := by
        intro v l h
        rw [h] at hX
        have h1 : X.toList[k]? = some v := by
          have := congrArg (·[0]?) hX
          simpa using this
        refine ⟨by simpa using h1, ?_⟩
        have := congrArg (List.drop 1) hX
        simpa [Nat.add_comm] using this
      have tailY : ∀ v l, ys = v :: l → Y[k]? = some v ∧ Y.toList.drop (k + 1) = l := by
        intro v l h
        rw [h] at hY
        have h1 : Y.toList[k]? = some v := by
          have := congrArg (·[0]?) hY
          simpa using this
        refine ⟨by simpa using h1, ?_⟩
        have := congrArg (List.drop 1) hY
        simpa [Nat.add_comm] using this
      simp only [Op.eqFields, if_pos hn', ho']
      unfold eqL at he
      split at he
      · contradiction
      · rename_i ds' a xs' b ys' hq
        injection hq with q1 q2
        subst q1 q2
        obtain ⟨x1, x2⟩ := tailX _ _ rfl
        obtain ⟨y1, y2⟩ := tailY _ _ rfl
        have hu : P.underlying f.type = some .string := by
          revert ht
          cases P.underlying f.type with
          | none => intro h; cases h
          | some u => cases u <;> intro h <;> first | rfl | cases h
        split at he
        · rename_i r' hr'
          obtain rfl := Option.some.inj he
          have := ih (k + 1) _ xs' ys' r' hp x2 y2 hr'
          simp only [Sem.run_bind, run_part hu rfl x1, run_part hu rfl y1, Result.andThen_ok, run_equalIn_string w d f.type _ _ hu, str_beq]
          cases decide (a = b) <;> simp [this]
        · cases he
      · rename_i ds' a xs' b ys' hq
        injection hq with q1 q2
        subst q1 q2
        obtain ⟨x1, x2⟩ := tailX _ _ rfl
        obtain ⟨y1, y2⟩ := tailY _ _ rfl
        have hu : P.underlying f.type = some .bool := by
          revert ht
          cases P.underlying f.type with
          | none => intro h; cases h
          | some u => cases u <;> intro h <;> first | rfl | cases h
        split at he
        · rename_i r' hr'
          obtain rfl := Option.some.inj he
          have := ih (k + 1) _ xs' ys' r' hp x2 y2 hr'
          have hbb : (a == b) = decide (a = b) := by cases a <;> cases b <;> rfl
          simp only [Sem.run_bind, run_part hu rfl x1, run_part hu rfl y1, Result.andThen_ok, run_equalIn_bool' w d f.type _ _ hu, hbb]
          cases decide (a = b) <;> simp [this]
        · cases he
      · rename_i kk ds' k1 a xs' k2 b ys' hq
        injection hq with q1 q2
        subst q1 q2
        obtain ⟨x1, x2⟩ := tailX _ _ rfl
        obtain ⟨y1, y2⟩ := tailY _ _ rfl
        split at he
        · rename_i r' e1 e2 hr'
          obtain rfl := Option.some.inj he
          obtain rfl := kEq_eq e1
          obtain rfl := kEq_eq e2
          have hu : P.underlying f.type = some (.int kk) := by
            revert ht
            cases P.underlying f.type with
            | none => intro h; cases h
            | some u => cases u <;> intro h <;> first | (rw [kEq_eq h]) | cases h
          have := ih (k + 1) _ xs' ys' r' hp x2 y2 hr'
          have hbb : (a == b) = decide (a = b) := by by_cases e : a = b <;> simp [e]
          simp only [Sem.run_bind, run_part hu rfl x1, run_part hu rfl y1, Result.andThen_ok, run_equalIn_int w d f.type _ _ _ _ hu, hbb]
          cases decide (a = b) <;> simp [this]
        · cases he
      · cases he
variable {σ : Env} {d : Option Tmp} {ty t t' : TypeId} {pos : String} {af : Array Edge} {g : Option (Nat × Bool)} {x y : Operand} {ds : List TypeDesc} {xs ys : List Value} {r : Bool}
theorem run_eqS [h : PlainS P t ds] (he : eqL ds xs ys = some r) (k : Nat) : (Op.equalIn (k + 2) t (.agg ⟨xs⟩) (.agg ⟨ys⟩)).run P w = .ok r w := by
  obtain ⟨fs, h1, h2, h3, _⟩ := h.ok
  have hf : P.fieldsOf t = fs := by simp [Program.fieldsOf, h1]
  rw [run_equalIn_struct w (k + 1) t _ _ (by rw [hf]; exact h1) h3, hf]
  exact eqFields_plain k ⟨xs⟩ ⟨ys⟩ fs.toList 0 ds xs ys r h2 rfl rfl he
theorem y_aneq [h : PlainS P t ds] (hx : evl σ x = .agg ⟨xs⟩) (hy : evl σ y = .agg ⟨ys⟩) (he : eqL ds xs ys = some r) : Y P σ ⟨d, .binOp .neq t x y t', ty, pos, af, g⟩ w (.bool (!r)) w := by
  obtain ⟨fs, h1, h2, h3, h4⟩ := h.ok
  refine Y.val ?_
  simp only [execOp, hx, hy, Sem.run_bind, run_eqGuard_agg w .neq t x y _ _ h4, Result.andThen_ok, run_neq_struct]
  rw [show (10000 : Nat) = 9998 + 2 from rfl, run_eqS he]
  rfl
end
end Go.Sv

/- This seat's plain structs as instances (made by a program of ours). -/
namespace Go.Proofs.YthgbpgjpnaanlaaDoor
open Go Go.Sv
instance : PlainS Tryd.prog 50 [.string, .string] := ⟨_, Tryd.underlying50, by kernel_rfl, by kernel_rfl, by kernel_rfl⟩
instance : PlainS Tryd.prog 51 [.string, .string] := ⟨_, Tryd.underlying51, by kernel_rfl, by kernel_rfl, by kernel_rfl⟩
instance : PlainS Tryd.prog 88 [.int .i64, .int .i64, .int .i64] := ⟨_, Tryd.underlying88, by kernel_rfl, by kernel_rfl, by kernel_rfl⟩
instance : PlainS Tryd.prog 89 [.int .i64, .int .i64, .int .i64] := ⟨_, Tryd.underlying89, by kernel_rfl, by kernel_rfl, by kernel_rfl⟩
instance : PlainS Tryd.prog 127 [.int .i32, .int .i64, .int .i64, .bool] := ⟨_, Tryd.underlying127, by kernel_rfl, by kernel_rfl, by kernel_rfl⟩
instance : PlainS Tryd.prog 128 [.int .i32, .int .i64, .int .i64, .bool] := ⟨_, Tryd.underlying128, by kernel_rfl, by kernel_rfl, by kernel_rfl⟩
instance : PlainS Tryd.prog 195 [.string] := ⟨_, Tryd.underlying195, by kernel_rfl, by kernel_rfl, by kernel_rfl⟩
instance : PlainS Tryd.prog 196 [.string] := ⟨_, Tryd.underlying196, by kernel_rfl, by kernel_rfl, by kernel_rfl⟩
end Go.Proofs.YthgbpgjpnaanlaaDoor

/-
  sieveref18: Same, Equal, Ends; sievelaw18: own, same.
-/
set_option linter.unusedSimpArgs false
set_option linter.unusedVariables false
set_option linter.unnecessarySimpa false
namespace Go.Proofs.YthgbpgjpnaanlaaDoor
open Go Go.Sv Go.RowKit

theorem att_at {es : List At} {i : Nat} {x : At} (h : es[i]? = some x) : ((es.flatMap At.cells).drop (i * 2)).take 2 = x.cells := fm_seg At.len es h
end Go.Proofs.YthgbpgjpnaanlaaDoor

/-
  sievelaw18: own; event: copied.
-/
set_option linter.unusedSimpArgs false
set_option linter.unusedVariables false
set_option linter.unnecessarySimpa false
namespace Go.Proofs.YthgbpgjpnaanlaaDoor
open Go Go.Sv Go.RowKit

theorem att_one (es : List At) : ∀ u ∈ es.flatMap At.cells, u.oneCell' = true := by
  intro u hu
  obtain ⟨x, _, hx⟩ := List.mem_flatMap.1 hu
  simp only [At.cells, List.mem_cons, List.not_mem_nil, or_false] at hx
  rcases hx with rfl | rfl <;> rfl
theorem evs_flat (ns : List EvM) (m : EvM) : ns.flatMap EvM.cells ++ m.cells = (ns ++ [m]).flatMap EvM.cells := by simp
theorem evs_snoc (ns : List EvM) (m : EvM) : evs (ns ++ [m]) = evs ns ++ [m.e] := by simp [evs]
set_option maxHeartbeats 2000000 in
theorem evOwn_ok (ms : List EvM) (p : Option Addr) (c : Nat) (hn : ms.length ≤ 1048576) (hs : ∀ m ∈ ms, m.e.small) (w0 w : World) (cs : List Plot) (hS0 : Sep w0 w cs) (hE : Evs w p ms) :
    CallsR Tryd.prog 14 #[.slice p ms.length c] w fun v w' => ∃ q cc ns, v = .slice q ns.length cc ∧ evs ns = evs ms ∧ Frm w w' ∧ Sep w0 w' (pRow 4 q ns.length cc (ns.flatMap EvM.cells) :: pMany (ns.map EvM.row) :: cs) := by
  have hS := Sep.start w
  refine enter (l := [.slice p ms.length c]) Tryd.func14 rfl Tryd.ntmps14 (by kernel_rfl) rfl ?_
  refine sgo ?_
  refine wlmake0 (c := ms.length + 1) (kc := .i64) (fun b w1 hb hr hf => ?_) (hy := by show Value.int .i64 ((ms.length : Int) + 1) = .int .i64 ((ms.length + 1 : Nat) : Int); rw [Int.natCast_add]; rfl)
  replace hS := (hS.push (c := pMany []) (Frm.refl w) (many_nil w) (by simp [pMany])).push (c := pRow 4 (pb b) 0 (ms.length + 1) []) hf hr (by simpa [pRow, rb] using hb)
  refine sgo ?_
  refine wcloop (X := Nat × Option Addr × Nat × List EvM) (fun x => [(3, .slice x.2.1 x.1 x.2.2.1), (10, .slice p ms.length c), (11, int ms.length), (12, int x.1)])
    (fun x wr => x.1 ≤ ms.length ∧ x.2.2.2.length = x.1 ∧ evs x.2.2.2 = (evs ms).take x.1 ∧ Sep w wr [pRow 4 x.2.1 x.1 x.2.2.1 (x.2.2.2.flatMap EvM.cells), pMany (x.2.2.2.map EvM.row)])
    (fun x => ms.length - x.1) (0, pb b, ms.length + 1, []) ⟨rfl, rfl, rfl, rfl, trivial⟩ ⟨Nat.zero_le _, rfl, rfl, hS⟩ ?_
  clear hS hr hf
  rintro ⟨i, q, cc, ns⟩ wr ρ ⟨hil, hnl, hev, hS⟩
  dsimp only at *
  have hIm := hE.im
  refine sgo ?_
  (show WC _ _ _ _ _ _ _; first | refine WC_dec rfl (fun hc => ?_) (fun hc => ?_) | refine WC_cond rfl (fun hc => ?_) (fun hc => ?_))
  · have hlt : i < ms.length := by omega
    have hx : ms[i]? = some ms[i] := List.getElem?_eq_getElem hlt
    have hmem : ms[i] ∈ ms := List.getElem_mem hlt
    have hseg := fm_seg EvM.len ms hx
    have hfl := fm_len EvM.len ms
    have hat := hE.each _ hmem
    have hsm := hs _ hmem
    have hps : ∃ a, p = some a := hE.im.sg.some (by omega)
    have htk : (evs ms).take (i + 1) = (evs ms).take i ++ [ms[i].e] := by rw [List.take_add_one, evs_at hx]; rfl
    generalize ms[i] = m at *
    clear hc
    obtain ⟨⟨kd, nm, tx, es⟩, mp, mc⟩ := m
    have hes := hsm.attrs
    dsimp only at hat hes
    have hl1 := fm_len At.len es
    refine sgo ?_
    rw [hseg]
    refine salloc hS fun b5 w5 hS => ?_
    refine sgo ?_
    refine ssta (vs := [int kd, str nm, str tx, .slice mp es.length mc]) hS 0 fun w6 hS => ?_
    replace hS : Sep w w6 [pOwn b5 [int kd, str nm, str tx, .slice mp es.length mc], pRow 4 q i cc (ns.flatMap EvM.cells), pMany (ns.map EvM.row)] := hS
    refine sgo ?_
    refine sb0 hS fun b9 w9 hS => ?_
    refine sgo ?_
    refine sapp hS 0 (hat.sep hS).sg (fun q2 c2 w10 hS => ?_) (hl := by omega) (h1 := att_one es)
    rw [List.nil_append, show 0 + es.length = es.length from Nat.zero_add _] at hS
    rw [show 0 + es.length = es.length from Nat.zero_add _]
    refine sgo ?_
    refine sst_slice hS 1 fun w11 hS => ?_
    refine sgo ?_
    refine sb1a (vs := EvM.cells ⟨⟨kd, nm, tx, es⟩, q2, c2⟩) hS fun b12 w12 hS => ?_
    refine sgo ?_
    refine sapp hS 3 (hS.own 0 rfl).sg (fun q4 c4 w13 hS => ?_) (h1 := ev_one _ _ _)
    rw [evs_flat] at hS
    refine sgo ?_
    have h1 := (hS.drop 0 rfl).drop 1 rfl
    have h2 := (((h1.front 2 rfl).front 1 rfl).more).front 1 rfl
    refine ⟨(i + 1, q4, c4, ns ++ [⟨⟨kd, nm, tx, es⟩, q2, c2⟩]), ⟨rfl, rfl, rfl, rfl, trivial⟩, ⟨hlt, by simp [hnl], by dsimp only; rw [evs_snoc, hev, htk], ?_⟩, (by (try dsimp only); omega)⟩
    rw [List.map_append]
    exact h2
  · obtain rfl : i = ms.length := by omega
    refine sgo ?_
    (first | refine fp1 (.inl rfl) rfl rfl ?_ | refine fp2 (.inl rfl) rfl rfl rfl ?_ | refine fp3 (.inl rfl) rfl rfl rfl rfl ?_ | refine fp0 (.inr rfl) rfl ?_ | refine fp0 (.inl rfl) rfl ?_ | refine fp1 (.inr rfl) rfl rfl ?_)
    rw [← evs_len ms, List.take_length] at hev
    exact ⟨q, cc, ns, by rw [hnl]; rfl, hev, hS.frm, by rw [hnl]; exact hS0.seq (ds := [_, _]) hS⟩
end Go.Proofs.YthgbpgjpnaanlaaDoor

/-
  sievelaw18: awake, EventNames.
-/
set_option linter.unusedSimpArgs false
set_option linter.unusedVariables false
set_option linter.unnecessarySimpa false
namespace Go.Proofs.YthgbpgjpnaanlaaDoor
open Go Go.Sv Go.RowKit

theorem num18_ok (k : Int) (w : World) : PureC Tryd.prog 12 #[int k] w (int k) := by
  refine enter (l := [int k]) Tryd.func12 rfl Tryd.ntmps12 (by kernel_rfl) rfl ?_
  refine sgo ?_
  (first | refine fp1 (.inl rfl) rfl rfl ?_ | refine fp2 (.inl rfl) rfl rfl rfl ?_ | refine fp3 (.inl rfl) rfl rfl rfl rfl ?_ | refine fp0 (.inr rfl) rfl ?_ | refine fp0 (.inl rfl) rfl ?_ | refine fp1 (.inr rfl) rfl rfl ?_); refine ⟨?_, by (first | exact Frm.refl _ | assumption | exact Go.Sv.Sep.frm (by assumption) | (refine Frm.trans ?_ (by assumption); first | exact Frm.refl _ | assumption))⟩; (try simp only [realB, rv_true, Nat.reduceBEq, cond_true, cond_false, entG, real_lif, updGL])
def ex1 : List EvM := [⟨⟨1, [98], [], []⟩, none, 0⟩, ⟨⟨2, [105], [], []⟩, none, 0⟩]
def ex2 : List EvM := [⟨⟨3, [98, 114], [], []⟩, none, 0⟩]
theorem ex1_lk : (lkR (evs ex1)).at_ = 1 ∧ (lkR (evs ex1)).err = 181 := by decide +kernel
theorem ex2_lk : (lkR (evs ex2)).most = 1 ∧ (lkR (evs ex2)).err = 0 := by decide +kernel
theorem exs_small : (∀ m ∈ ex1, m.e.small) ∧ ∀ m ∈ ex2, m.e.small := by
  constructor
  · intro m hm
    simp only [ex1, List.mem_cons, List.not_mem_nil, or_false] at hm
    rcases hm with rfl | rfl <;> exact ⟨by decide, by decide, by decide, by simp⟩
  · intro m hm
    simp only [ex2, List.mem_cons, List.not_mem_nil, or_false] at hm
    subst hm
    exact ⟨by decide, by decide, by decide, by simp⟩
set_option maxHeartbeats 1000000 in
theorem awake18_ok (w : World) (hA : Asc w) : PureC Tryd.prog 13 #[] w (.bool true) := by
  refine enter (l := []) Tryd.func13 rfl Tryd.ntmps13 (by kernel_rfl) rfl ?_
  have hS := Sep.start w
  refine sgo ?_
  refine wlbuild ?_
  refine wlbuild ?_
  refine wlbsr (vs := ex1.map EvM.cells) 2 (fun b w1 hb ho hf => ?_) (h1 := fun v hv => by obtain ⟨m, _, rfl⟩ := List.mem_map.1 hv; rfl)
  replace hS : Sep w w1 [pOwn b (ex1.flatMap EvM.cells)] := hS.push hf ho (by simpa [pOwn] using hb)
  refine wlpure (nested_ok ex1 (pb b) 2 (by decide) exs_small.1 w1 (hA.frm hS.frm) ⟨(hS.own 0 rfl).im (by simp), ?_⟩) fun w2 hf2 => ?_
  · intro m hm
    simp only [ex1, List.mem_cons, List.not_mem_nil, or_false] at hm
    rcases hm with rfl | rfl <;> exact Im.nil _ _ _
  replace hS := (hS.grow hf2).empty
  rw [ex1_lk.1, ex1_lk.2]
  refine sgo ?_
  refine wlbuild ?_
  refine sb1a (vs := ex2.flatMap EvM.cells) hS fun b3 w3 hS => ?_
  refine wlpure (depth_ok ex2 (pb b3) 1 (by decide) exs_small.2 w3 (hA.frm hS.frm) ⟨(hS.own 0 rfl).im (by simp), ?_⟩) fun w4 hf4 => ?_
  · intro m hm
    simp only [ex2, List.mem_cons, List.not_mem_nil, or_false] at hm
    subst hm; exact Im.nil _ _ _
  replace hS := hS.grow hf4
  rw [if_pos ex2_lk.2, ex2_lk.1]
  refine sgo ?_
  refine wlcallgp (vals := [int 181]) (fun _ => num18_ok 181 _) fun w5 hf5 => ?_
  replace hS := hS.grow hf5
  refine sgo ?_
  refine wlcallgp (vals := [int 0]) (fun _ => num18_ok 0 _) fun w6 hf6 => ?_
  replace hS := hS.grow hf6
  refine sgo ?_
  (first | refine fp1 (.inl rfl) rfl rfl ?_ | refine fp2 (.inl rfl) rfl rfl rfl ?_ | refine fp3 (.inl rfl) rfl rfl rfl rfl ?_ | refine fp0 (.inr rfl) rfl ?_ | refine fp0 (.inl rfl) rfl ?_ | refine fp1 (.inr rfl) rfl rfl ?_); refine ⟨?_, by (first | exact Frm.refl _ | assumption | exact Go.Sv.Sep.frm (by assumption) | (refine Frm.trans ?_ (by assumption); first | exact Frm.refl _ | assumption))⟩; (try simp only [realB, rv_true, Nat.reduceBEq, cond_true, cond_false, entG, real_lif, updGL])
  simp [pkb]
end Go.Proofs.YthgbpgjpnaanlaaDoor

/-
  Package event: Equal, Count, Text.
-/
set_option linter.unusedSimpArgs false
set_option linter.unusedVariables false
set_option linter.unnecessarySimpa false
namespace Go.Sv
open Go Go.RowKit
section
variable {P : Program} {w : World}
variable {σ : Env} {d : Option Tmp} {ty t t' el : TypeId} {pos : String} {af : Array Edge} {g : Option (Nat × Bool)} {x y : Operand} {zv : Value} {bytes : Nat}
end
end Go.Sv
namespace Go.Proofs.YthgbpgjpnaanlaaDoor
open Go Go.Sv Go.RowKit

set_option maxHeartbeats 1000000 in
/-- two lists of attributes -/
theorem atEqual_ok (es fs : List At) (p q : Option Addr) (c cc : Nat) (h1 : es.length ≤ 1048577) (h2 : fs.length ≤ 1048577) (w : World) (hi : Im [] w p (es.flatMap At.cells)) (hj : Im [] w q (fs.flatMap At.cells)) :
    PureC Tryd.prog 63 #[.slice p es.length c, .slice q fs.length cc] w (.bool (decide (es = fs))) := by
  have hl1 := fm_len At.len es
  have hl2 := fm_len At.len fs
  refine enter (l := [.slice p es.length c, .slice q fs.length cc]) Tryd.func63 rfl Tryd.ntmps63 (by kernel_rfl) rfl ?_
  have hS := Sep.start w
  refine sgo ?_
  (show WC _ _ _ _ _ _ _; first | refine WC_dec rfl (fun hc => ?_) (fun hc => ?_) | refine WC_cond rfl (fun hc => ?_) (fun hc => ?_))
  · have hne : es ≠ fs := by
      intro h
      subst h
      simp at hc
    refine sgo ?_
    (first | refine fp1 (.inl rfl) rfl rfl ?_ | refine fp2 (.inl rfl) rfl rfl rfl ?_ | refine fp3 (.inl rfl) rfl rfl rfl rfl ?_ | refine fp0 (.inr rfl) rfl ?_ | refine fp0 (.inl rfl) rfl ?_ | refine fp1 (.inr rfl) rfl rfl ?_); refine ⟨?_, by (first | exact Frm.refl _ | assumption | exact Go.Sv.Sep.frm (by assumption) | (refine Frm.trans ?_ (by assumption); first | exact Frm.refl _ | assumption))⟩; (try simp only [realB, rv_true, Nat.reduceBEq, cond_true, cond_false, entG, real_lif, updGL])
    rw [decide_eq_false hne]
  · have hle : es.length = fs.length := by
      have : ¬ ((es.length : Int) ≠ fs.length) := hc
      omega
    clear hc
    refine sgo ?_
    refine wcloop (X := Nat) (fun i => [(0, .slice p es.length c), (1, .slice q fs.length cc), (12, int es.length), (13, int i)])
      (fun i wr => i ≤ es.length ∧ es.take i = fs.take i ∧ Frm w wr) (fun i => es.length - i) 0 ⟨rfl, rfl, rfl, rfl, trivial⟩ ⟨Nat.zero_le _, rfl, Frm.refl _⟩ ?_
    rintro i wr ρ ⟨hil, hpre, hfr⟩
    refine sgo ?_
    (show WC _ _ _ _ _ _ _; first | refine WC_dec rfl (fun hc => ?_) (fun hc => ?_) | refine WC_cond rfl (fun hc => ?_) (fun hc => ?_))
    · have hlt : i < es.length := by omega
      have hx : es[i]? = some es[i] := List.getElem?_eq_getElem hlt
      have hy : fs[i]? = some fs[i] := List.getElem?_eq_getElem (by omega)
      have hsx := att_at hx
      have hsy := att_at hy
      have hir := hi.frm hfr
      have hjr := hj.frm hfr
      have hpa : ∃ a, p = some a := hi.some (by omega)
      have hpb : ∃ a, q = some a := hj.some (by omega)
      have htx : es.take (i + 1) = es.take i ++ [es[i]] := by rw [List.take_add_one, hx]; rfl
      have hty : fs.take (i + 1) = fs.take i ++ [fs[i]] := by rw [List.take_add_one, hy]; rfl
      generalize es[i] = x at *
      generalize fs[i] = y at *
      clear hc
      refine sgo ?_
      refine wcdraw ?_
      refine qgo ?_
      rw [hsx, hsy]
      refine ql (v := .bool (!(decide (x.n = y.n) && (decide (x.v = y.v) && true)))) ?_ (YQ.ofY fun w _ => y_aneq rfl rfl rfl)
      refine QL_nil ?_
      intro w3 hf3
      have hfr3 := hfr.trans hf3
      obtain ⟨xn, xv⟩ := x
      obtain ⟨yn, yv⟩ := y
      refine sgo ?_
      (show WC _ _ _ _ _ _ _; first | refine WC_dec rfl (fun hc => ?_) (fun hc => ?_) | refine WC_cond rfl (fun hc => ?_) (fun hc => ?_))
      · have hne : es ≠ fs := by
          intro h
          subst h
          rw [hx] at hy
          injection hy with hy
          injection hy with e1 e2
          subst e1 e2
          simp at hc
        refine sgo ?_
        (first | refine fp1 (.inl rfl) rfl rfl ?_ | refine fp2 (.inl rfl) rfl rfl rfl ?_ | refine fp3 (.inl rfl) rfl rfl rfl rfl ?_ | refine fp0 (.inr rfl) rfl ?_ | refine fp0 (.inl rfl) rfl ?_ | refine fp1 (.inr rfl) rfl rfl ?_); refine ⟨?_, by (first | exact Frm.refl _ | assumption | exact Go.Sv.Sep.frm (by assumption) | (refine Frm.trans ?_ (by assumption); first | exact Frm.refl _ | assumption))⟩; (try simp only [realB, rv_true, Nat.reduceBEq, cond_true, cond_false, entG, real_lif, updGL])
        rw [decide_eq_false hne]
      · refine sgo ?_
        refine ⟨i + 1, ⟨rfl, rfl, rfl, rfl, trivial⟩, ⟨hlt, ?_, hfr3⟩, (by (try dsimp only); omega)⟩
        rw [htx, hty, hpre]
        simp at hc
        rw [hc.1, hc.2]
    · obtain rfl : i = es.length := by omega
      rw [List.take_length, hle, List.take_length] at hpre
      refine sgo ?_
      (first | refine fp1 (.inl rfl) rfl rfl ?_ | refine fp2 (.inl rfl) rfl rfl rfl ?_ | refine fp3 (.inl rfl) rfl rfl rfl rfl ?_ | refine fp0 (.inr rfl) rfl ?_ | refine fp0 (.inl rfl) rfl ?_ | refine fp1 (.inr rfl) rfl rfl ?_); refine ⟨?_, by (first | exact Frm.refl _ | assumption | exact Go.Sv.Sep.frm (by assumption) | (refine Frm.trans ?_ (by assumption); first | exact Frm.refl _ | assumption))⟩; (try simp only [realB, rv_true, Nat.reduceBEq, cond_true, cond_false, entG, real_lif, updGL])
      rw [hpre, decide_eq_true rfl]
set_option maxHeartbeats 1000000 in
theorem evEqual1_ok (a b : EvM) (ha : a.e.small) (hb : b.e.small) (w : World) (hi : Im [] w a.p (a.e.attrs.flatMap At.cells)) (hj : Im [] w b.p (b.e.attrs.flatMap At.cells)) :
    PureC Tryd.prog 62 #[.agg ⟨a.cells⟩, .agg ⟨b.cells⟩] w (.bool (decide (a.e = b.e))) := by
  obtain ⟨⟨ka, na, ta, es⟩, pa, ca⟩ := a
  obtain ⟨⟨kb, nb, tb, fs⟩, pb', cb⟩ := b
  have h1 := ha.attrs
  have h2 := hb.attrs
  dsimp only at hi hj h1 h2
  refine enter (l := [.agg ⟨EvM.cells ⟨⟨ka, na, ta, es⟩, pa, ca⟩⟩, .agg ⟨EvM.cells ⟨⟨kb, nb, tb, fs⟩, pb', cb⟩⟩]) Tryd.func62 rfl Tryd.ntmps62 (by kernel_rfl) rfl ?_
  have hS := Sep.start w
  refine WC_seq ?_
  refine WC_region ?_
  refine sbox (v := .agg ⟨EvM.cells ⟨⟨ka, na, ta, es⟩, pa, ca⟩⟩) hS fun b2 w1 hS => ?_
  replace hS : Sep w w1 [pOwn b2 [int ka, str na, str ta, .slice pa es.length ca]] := hS
  refine sbox (v := .agg ⟨EvM.cells ⟨⟨kb, nb, tb, fs⟩, pb', cb⟩⟩) hS fun b3 w2 hS => ?_
  replace hS : Sep w w2 [pOwn b3 [int kb, str nb, str tb, .slice pb' fs.length cb], pOwn b2 [int ka, str na, str ta, .slice pa es.length ca]] := hS
  refine sgo ?_
  refine wlcallgp (vals := [.slice pa es.length ca, .slice pb' fs.length cb]) (fun _ => atEqual_ok es fs pa pb' ca cb (by omega) (by omega) _ (hi.sep hS) (hj.sep hS)) fun w3 hf3 => ?_
  replace hS := hS.grow hf3
  refine sgo ?_
  (first | refine fp1 (.inl rfl) rfl rfl ?_ | refine fp2 (.inl rfl) rfl rfl rfl ?_ | refine fp3 (.inl rfl) rfl rfl rfl rfl ?_ | refine fp0 (.inr rfl) rfl ?_ | refine fp0 (.inl rfl) rfl ?_ | refine fp1 (.inr rfl) rfl rfl ?_); refine ⟨?_, by (first | exact Frm.refl _ | assumption | exact Go.Sv.Sep.frm (by assumption) | (refine Frm.trans ?_ (by assumption); first | exact Frm.refl _ | assumption))⟩; (try simp only [realB, rv_true, Nat.reduceBEq, cond_true, cond_false, entG, real_lif, updGL])
  have e : (⟨ka, na, ta, es⟩ : Ev) = ⟨kb, nb, tb, fs⟩ ↔ ((ka = kb ∧ na = nb) ∧ ta = tb) ∧ es = fs := by
    constructor
    · intro h; injection h with e1 e2 e3 e4; exact ⟨⟨⟨e1, e2⟩, e3⟩, e4⟩
    · rintro ⟨⟨⟨rfl, rfl⟩, rfl⟩, rfl⟩; rfl
  simp only [pkb_and, decide_eq_decide.2 e, Bool.decide_and]
set_option maxHeartbeats 1000000 in
theorem evEqualF_ok (ms ns : List EvM) (p q : Option Addr) (c cc : Nat) (h1 : ms.length ≤ 1048577) (h2 : ns.length ≤ 1048577) (hs : ∀ m ∈ ms, m.e.small) (hs2 : ∀ m ∈ ns, m.e.small) (w : World) (hE : Evs w p ms) (hF : Evs w q ns) :
    PureC Tryd.prog 61 #[.slice p ms.length c, .slice q ns.length cc, .func (.func 62) #[] #[]] w (.bool (decide (evs ms = evs ns))) := by
  refine enter (l := [.slice p ms.length c, .slice q ns.length cc, .func (.func 62) #[] #[]]) Tryd.func61 rfl Tryd.ntmps61 (by kernel_rfl) rfl ?_
  have hS := Sep.start w
  refine sgo ?_
  (show WC _ _ _ _ _ _ _; first | refine WC_dec rfl (fun hc => ?_) (fun hc => ?_) | refine WC_cond rfl (fun hc => ?_) (fun hc => ?_))
  · have hne : evs ms ≠ evs ns := by
      intro h
      have := congrArg List.length h
      rw [evs_len, evs_len] at this
      have hc' : ¬ ((ms.length : Int) = ns.length) := hc
      omega
    refine sgo ?_
    (first | refine fp1 (.inl rfl) rfl rfl ?_ | refine fp2 (.inl rfl) rfl rfl rfl ?_ | refine fp3 (.inl rfl) rfl rfl rfl rfl ?_ | refine fp0 (.inr rfl) rfl ?_ | refine fp0 (.inl rfl) rfl ?_ | refine fp1 (.inr rfl) rfl rfl ?_); refine ⟨?_, by (first | exact Frm.refl _ | assumption | exact Go.Sv.Sep.frm (by assumption) | (refine Frm.trans ?_ (by assumption); first | exact Frm.refl _ | assumption))⟩; (try simp only [realB, rv_true, Nat.reduceBEq, cond_true, cond_false, entG, real_lif, updGL])
    rw [decide_eq_false hne]
  have hle : ms.length = ns.length := by
    have : ¬ ((ms.length : Int) ≠ ns.length) := hc
    omega
  clear hc
  refine sgo ?_
  refine wcloop (X := Nat) (fun i => [(1, .slice q ns.length cc), (2, .func (.func 62) #[] #[]), (15, .slice p ms.length c), (16, int ms.length), (17, int i)])
    (fun i wr => i ≤ ms.length ∧ (evs ms).take i = (evs ns).take i ∧ Sep w wr []) (fun i => ms.length - i) 0 ⟨rfl, rfl, rfl, rfl, rfl, trivial⟩ ⟨Nat.zero_le _, rfl, hS⟩ ?_
  clear hS
  rintro i wr ρ ⟨hil, hpre, hS⟩
  have hEr := hE.frm hS.frm
  have hFr := hF.frm hS.frm
  refine sgo ?_
  (show WC _ _ _ _ _ _ _; first | refine WC_dec rfl (fun hc => ?_) (fun hc => ?_) | refine WC_cond rfl (fun hc => ?_) (fun hc => ?_))
  · have hlt : i < ms.length := by omega
    have hSg := hE.im.sg
    have hSh := hF.im.sg
    have hIm := hE.im
    have hIn := hF.im
    have hx : ms[i]? = some ms[i] := List.getElem?_eq_getElem hlt
    have hy : ns[i]? = some ns[i] := List.getElem?_eq_getElem (by omega)
    have hseg := fm_seg EvM.len ms hx
    have hseh := fm_seg EvM.len ns hy
    have hat := hE.each _ (List.getElem_mem hlt)
    have hau := hF.each _ (List.getElem_mem (show i < ns.length by omega))
    have hsm := hs _ (List.getElem_mem hlt)
    have hsn := hs2 _ (List.getElem_mem (show i < ns.length by omega))
    have hps : ∃ q, p = some q := hSg.some (by have := fm_len EvM.len ms; omega)
    have hqs : ∃ a, q = some a := hSh.some (by have := fm_len EvM.len ns; omega)
    have hfl := fm_len EvM.len ms
    have hfl2 := fm_len EvM.len ns
    have htx : (evs ms).take (i + 1) = (evs ms).take i ++ [ms[i].e] := by rw [List.take_add_one, evs_at hx]; rfl
    have hty : (evs ns).take (i + 1) = (evs ns).take i ++ [ns[i].e] := by rw [List.take_add_one, evs_at hy]; rfl
    generalize ms[i] = m at *
    generalize ns[i] = n at *
    clear hc
    obtain ⟨⟨ka, na, ta, es⟩, ap, ac⟩ := m
    obtain ⟨⟨kb, nb, tb, fs⟩, bp, bc⟩ := n
    refine sgo ?_
    rw [hseg]
    refine salloc hS fun b8 w1 hS => ?_
    refine sgo ?_
    refine ssta (vs := [int ka, str na, str ta, .slice ap es.length ac]) hS 0 fun w2 hS => ?_
    replace hS : Sep w w2 [pOwn b8 [int ka, str na, str ta, .slice ap es.length ac]] := hS
    refine sgo ?_
    rw [hseh]
    refine salloc hS fun b9 w3 hS => ?_
    refine sgo ?_
    refine ssta (vs := [int kb, str nb, str tb, .slice bp fs.length bc]) hS 0 fun w4 hS => ?_
    replace hS : Sep w w4 [pOwn b9 [int kb, str nb, str tb, .slice bp fs.length bc], pOwn b8 [int ka, str na, str ta, .slice ap es.length ac]] := hS
    refine sgo ?_
    refine wlcallv (f := 62) (first := []) (args := [.agg ⟨EvM.cells ⟨⟨ka, na, ta, es⟩, ap, ac⟩⟩, .agg ⟨EvM.cells ⟨⟨kb, nb, tb, fs⟩, bp, bc⟩⟩]) (cap := []) (evEqual1_ok ⟨⟨ka, na, ta, es⟩, ap, ac⟩ ⟨⟨kb, nb, tb, fs⟩, bp, bc⟩ hsm hsn w4 (hat.sep hS) (hau.sep hS)) ?_
    rintro _ w5 ⟨rfl, hf5⟩
    replace hS := hS.grow hf5
    refine sgo ?_
    (show WC _ _ _ _ _ _ _; first | refine WC_dec rfl (fun hc => ?_) (fun hc => ?_) | refine WC_cond rfl (fun hc => ?_) (fun hc => ?_))
    · have hne : evs ms ≠ evs ns := by
        intro h
        rw [h] at htx
        rw [htx] at hty
        have := List.append_cancel_left hty
        simp at this
        simp [this] at hc
      refine sgo ?_
      (first | refine fp1 (.inl rfl) rfl rfl ?_ | refine fp2 (.inl rfl) rfl rfl rfl ?_ | refine fp3 (.inl rfl) rfl rfl rfl rfl ?_ | refine fp0 (.inr rfl) rfl ?_ | refine fp0 (.inl rfl) rfl ?_ | refine fp1 (.inr rfl) rfl rfl ?_); refine ⟨?_, by (first | exact Frm.refl _ | assumption | exact Go.Sv.Sep.frm (by assumption) | (refine Frm.trans ?_ (by assumption); first | exact Frm.refl _ | assumption))⟩; (try simp only [realB, rv_true, Nat.reduceBEq, cond_true, cond_false, entG, real_lif, updGL])
      rw [decide_eq_false hne]
    · refine sgo ?_
      refine ⟨i + 1, ⟨rfl, rfl, rfl, rfl, rfl, trivial⟩, ⟨hlt, ?_, hS.tail.tail⟩, (by (try dsimp only); omega)⟩
      rw [htx, hty, hpre]
      simp at hc
      rw [hc.1, hc.2.1, hc.2.2.1, hc.2.2.2]
  · obtain rfl : i = ms.length := by omega
    refine sgo ?_
    (first | refine fp1 (.inl rfl) rfl rfl ?_ | refine fp2 (.inl rfl) rfl rfl rfl ?_ | refine fp3 (.inl rfl) rfl rfl rfl rfl ?_ | refine fp0 (.inr rfl) rfl ?_ | refine fp0 (.inl rfl) rfl ?_ | refine fp1 (.inr rfl) rfl rfl ?_); refine ⟨?_, by (first | exact Frm.refl _ | assumption | exact Go.Sv.Sep.frm (by assumption) | (refine Frm.trans ?_ (by assumption); first | exact Frm.refl _ | assumption))⟩; (try simp only [realB, rv_true, Nat.reduceBEq, cond_true, cond_false, entG, real_lif, updGL])
    rw [← evs_len ms, List.take_length, evs_len, hle, ← evs_len ns, List.take_length] at hpre
    rw [hpre, decide_eq_true rfl]
theorem eqEv_ok (ms ns : List EvM) (p q : Option Addr) (c cc : Nat) (h1 : ms.length ≤ 1048577) (h2 : ns.length ≤ 1048577) (hs : ∀ m ∈ ms, m.e.small) (hs2 : ∀ m ∈ ns, m.e.small) (w : World) (hE : Evs w p ms) (hF : Evs w q ns) :
    PureC Tryd.prog 35 #[.slice p ms.length c, .slice q ns.length cc] w (.bool (decide (evs ms = evs ns))) := by
  refine enter (l := [.slice p ms.length c, .slice q ns.length cc]) Tryd.func35 rfl Tryd.ntmps35 (by kernel_rfl) rfl ?_
  refine sgo ?_
  refine wlpure (evEqualF_ok ms ns p q c cc h1 h2 hs hs2 w hE hF) fun w1 hf1 => ?_
  refine sgo ?_
  (first | refine fp1 (.inl rfl) rfl rfl ?_ | refine fp2 (.inl rfl) rfl rfl rfl ?_ | refine fp3 (.inl rfl) rfl rfl rfl rfl ?_ | refine fp0 (.inr rfl) rfl ?_ | refine fp0 (.inl rfl) rfl ?_ | refine fp1 (.inr rfl) rfl rfl ?_); refine ⟨?_, by (first | exact Frm.refl _ | assumption | exact Go.Sv.Sep.frm (by assumption) | (refine Frm.trans ?_ (by assumption); first | exact Frm.refl _ | assumption))⟩; (try simp only [realB, rv_true, Nat.reduceBEq, cond_true, cond_false, entG, real_lif, updGL])
end Go.Proofs.YthgbpgjpnaanlaaDoor

/-
  Package event: Count, Text.
-/
set_option linter.unusedSimpArgs false
set_option linter.unusedVariables false
set_option linter.unnecessarySimpa false
namespace Go.Proofs.YthgbpgjpnaanlaaDoor
open Go Go.Sv Go.RowKit

def cntR (l : List Ev) (k : Int) : Nat := l.countP fun e => decide (e.kind = k)
/-- how many of each kind -/
def cnts (l : List Ev) : List Value := [int (cntR l 0), int (cntR l 1), int (cntR l 2), int (cntR l 3)]
/-- all text in one -/
def etxt (e : Ev) : List UInt8 := if e.kind = 0 then mendR e.text else []
def textR (l : List Ev) : List UInt8 := l.flatMap etxt
end Go.Proofs.YthgbpgjpnaanlaaDoor

/-
  sievelaw18: EventChecks.
-/
set_option linter.unusedSimpArgs false
set_option linter.unusedVariables false
set_option linter.unnecessarySimpa false
namespace Go.Sv
open Go Go.RowKit
section
variable {D : Type} {P : Program} {w0 w w' : World} {cs rest : List Plot} {σ : Env} {d : Option Tmp} {dd dj : Nat} {op : Op} {ty : TypeId} {pos : String} {af : Array Edge} {v : Value} {k j : Nat} {want : Bool} {ops : Array Oper} {T : Value → World → Prop} {B : Prop}
theorem y_ev (sl : List (Nat × Value)) (hs : Has σ sl) {g : Option (Nat × Bool)} (he : ev1 (updGL (lif σ) sl) op = some ⟨v, true⟩) : Y P σ ⟨d, op, ty, pos, af, g⟩ w v w := by
  have hy : Y P (real (updGL (lif σ) sl)) ⟨d, op, ty, pos, af, g⟩ w v w := ev1_ok he rfl
  rw [← frameOf sl hs] at hy
  exact hy
/-- one that only looks at what is known -/
theorem rule_e (sl : List (Nat × Value)) (hs : Has σ sl) (hT : T v w) (he : ev1 (updGL (lif σ) sl) op = some ⟨v, true⟩ := by rfl) :
    (Region.wanted (⟨d, op, ty, pos, af, none⟩ : Oper) (yl ops σ) = true ∧ comes P T ((execOp (evl σ) ⟨d, op, ty, pos, af, none⟩).run P w)) ∨ B := rule_y (y_ev sl hs he) hT
end
end Go.Sv
namespace Go.Proofs.YthgbpgjpnaanlaaDoor
open Go Go.Sv Go.RowKit

structure CkD where
  q : Option Addr
  c : Nat
  ns : List EvM
def ckP (ms ns : List EvM) (p q : Option Addr) (c cc : Nat) : Plan CkD where
  val k d := match k with
    | 0 | 3 | 8 | 9 | 14 | 20 => .slice p ms.length c
    | 1 | 4 => .slice q ns.length cc
    | 2 | 5 => .bool (decide (evs ms = evs ns))
    | 10 => .slice d.q d.ns.length d.c
    | 15 | 16 => .agg ⟨cnts (evs ms)⟩
    | 21 | 22 => str (textR (evs ms))
    | _ => .bool true
  pl k d := match k with
    | 10 => [pRow 4 d.q d.ns.length d.c (d.ns.flatMap EvM.cells), pMany (d.ns.map EvM.row)]
    | _ => []
  con k := match k with
    | 10 => some 11
    | _ => none
  fact k a := match k with
    | 10 => evs (a 10).ns = evs ms
    | _ => True
end Go.Proofs.YthgbpgjpnaanlaaDoor

/-
  Regions that draw their order, by a plan, where operations may also take (and write) what lay there before.
-/
set_option linter.unusedSimpArgs false
set_option linter.unusedVariables false
set_option linter.unnecessarySimpa false
namespace Go.Sv
open Go Go.RowKit
theorem perm5 {α : Type} (A B C D E : List α) : ((A ++ B) ++ ((C ++ D) ++ E)).Perm (A ++ (C ++ (E ++ (B ++ D)))) := by
  simp only [List.append_assoc]
  refine List.Perm.append_left _ ?_
  have h1 : (B ++ (C ++ (D ++ E))).Perm (C ++ (B ++ (D ++ E))) := by
    rw [← List.append_assoc B C, ← List.append_assoc C B]
    exact List.perm_append_comm.append_right _
  refine h1.trans (List.Perm.append_left _ ?_)
  rw [← List.append_assoc]
  exact List.perm_append_comm
theorem perm4 {α : Type} (A B C D : List α) : (A ++ (B ++ (C ++ D))).Perm ((A ++ C) ++ (D ++ B)) := by
  simp only [List.append_assoc]
  refine List.Perm.append_left _ ?_
  have h1 : (B ++ (C ++ D)).Perm ((C ++ D) ++ B) := List.perm_append_comm
  rw [List.append_assoc] at h1
  exact h1
theorem perm6 {α : Type} (A B C S D E : List α) : ((A ++ B) ++ ((C ++ (S ++ D)) ++ E)).Perm (A ++ (C ++ (S ++ (E ++ (B ++ D))))) := by
  refine (perm5 A B C (S ++ D) E).trans (List.Perm.append_left _ (List.Perm.append_left _ ?_))
  have h1 : (E ++ (B ++ (S ++ D))) = ((E ++ B) ++ S) ++ D := by simp only [List.append_assoc]
  have h2 : (S ++ (E ++ (B ++ D))) = (S ++ (E ++ B)) ++ D := by simp only [List.append_assoc]
  rw [h1, h2]
  exact List.perm_append_comm.append_right _
theorem perm7 {α : Type} (A S B C D : List α) : (A ++ (S ++ (B ++ (C ++ D)))).Perm ((A ++ C) ++ ((S ++ D) ++ B)) := by
  have h1 : (A ++ (S ++ (B ++ (C ++ D)))) = (A ++ ((S ++ B) ++ (C ++ D))) := by simp only [List.append_assoc]
  rw [h1]
  refine (perm4 A (S ++ B) C D).trans (List.Perm.append_left _ ?_)
  have h2 : (S ++ D) ++ B = S ++ (D ++ B) := by simp only [List.append_assoc]
  rw [h2]
  have h3 : D ++ (S ++ B) = (D ++ S) ++ B := by simp only [List.append_assoc]
  have h4 : S ++ (D ++ B) = (S ++ D) ++ B := by simp only [List.append_assoc]
  rw [h3, h4]
  exact List.perm_append_comm.append_right _
section
variable {P : Program} {n : Nat} {ds : Ctx} {Q : Exit → Ctx → Env → World → Prop} {S : (Nat → Bool) → Env → World → Prop} {σ : Env} {w : World} {m : Nat}
theorem wpOpIn_of_I {ops : Array Oper} {dd : List Deferred} {Q' : Exit → Act → World → Prop} {T : Value → World → Prop} {K : Act → World → Prop} {i : Nat} {o : Oper} {ro : Option Nat} (hino : operIn n ro.isSome ops o = true) (ho : ops[i]? = some o)
    (h : (Region.wanted o (yl ops σ) = true ∧ comes P T ((execOp (evl σ) o).run P w)) ∨ (Region.wanted o (yl ops σ) = false ∧ T undef w))
    (next : ∀ v w', T v w' → K ((act n dd σ).put o.dst v) w') : wpOpIn (fen ro) m P ops Q' i K (act n dd σ) w := by
  unfold wpOpIn
  simp only [ho]
  rw [act_yielded hino]
  rcases h with ⟨hw, hy⟩ | ⟨hw, hy⟩
  · rw [hw, if_pos rfl]
    refine ⟨fun _ _ => fen_fn _ _, ?_⟩
    rw [fen_round, semAt_in hino, act_exec hino]
    generalize (execOp (evl σ) o).run P w = r at *
    cases r with
    | ok x w' =>
      cases x <;> simp only [comes] at hy <;> simp only [Oper.uponIn]
      case value u => exact next _ _ hy
      case skip => exact next _ _ hy
      case enter g args =>
        refine ⟨fun h => (by rw [fen_depth] at h; cases h), callsIn_fen (Calls.mono hy ?_)⟩
        rintro e w'' ⟨v, rfl, h2⟩
        exact next _ _ h2
    | halt x w' => simp only [comes] at hy
  · rw [hw, if_neg Bool.false_ne_true]
    exact ⟨fun _ _ => fen_fn _ _, next _ _ hy⟩
theorem wpAnyIn_of_I {ops : Array Oper} {dd : List Deferred} {Q' : Exit → Act → World → Prop} {ro : Option Nat} (hf : fwdB ops = true) (hin : ops.toList.all (operIn n ro.isSome ops) = true) (hop : ∀ k o, ops[k]? = some o → StepI P ops S k o)
    (hQ : ∀ L σ w, (∀ k, k < ops.size → L k = true) → S L σ w → Q' .normal (act n dd σ) w) :
    ∀ (f : Nat) (listed : Array Bool) (σ : Env) (w : World), listed.size = ops.size → Clo ops (fl listed) → listed.toList.count false ≤ f → S (fl listed) σ w → wpAnyIn (fen ro) m P .any ops Q' f listed (act n dd σ) w
  | 0, listed, σ, w, hsz, _, hc, hS => by
    have hall : ∀ k, k < ops.size → fl listed k = true := by
      intro k hk
      cases hL : fl listed k with
      | true => rfl
      | false =>
        exfalso
        simp only [fl, Array.getD_eq_getD_getElem?, show k < listed.size from by omega, Array.getElem?_eq_getElem, Option.getD_some] at hL
        have : false ∈ listed.toList := by rw [← hL]; simp
        have := List.count_pos_iff.2 this
        omega
    refine ⟨?_, hQ _ _ _ hall hS⟩
    cases hr : Region.ready .any ops listed with
    | nil => rfl
    | cons i r =>
      exfalso
      have hi : i ∈ Region.ready .any ops listed := by rw [hr]; exact List.mem_cons_self
      obtain ⟨h0, o, ho, _⟩ := mem_ready.1 hi
      have hk : i < ops.size := (Array.getElem?_eq_some_iff.1 ho).1
      have := hall i hk
      simp only [fl, Array.getD_eq_getD_getElem?, show i < listed.size from by omega, Array.getElem?_eq_getElem, Option.getD_some] at this h0
      rw [this] at h0
      cases h0
  | f + 1, listed, σ, w, hsz, hcl, hc, hS => by
    refine ⟨fun hr => hQ _ _ _ (ready_of_fwd hf hsz hr) hS, fun i hi => ?_⟩
    obtain ⟨h0, o, ho, hall⟩ := mem_ready.1 hi
    have hio : i < ops.size := (Array.getElem?_eq_some_iff.1 ho).1
    have hlt : i < listed.size := by omega
    have h0' : listed[i] = false := by simpa [hlt] using h0
    have hup : Up ops o i (fl listed) := by
      refine ⟨by simp [fl, hlt, h0'], ?_, ?_⟩
      · intro j hj
        obtain ⟨e, he, hb, rfl⟩ := bindsOn_iff.1 hj
        exact hall e he hb
      · intro j oj hj hb
        cases hL : fl listed j with
        | false => rfl
        | true =>
          have h1 := hcl j oj hj hL i hb
          have h2 : fl listed i = true := h1
          simp [fl, hlt, h0'] at h2
    have hino : operIn n ro.isSome ops o = true := by
      rw [List.all_eq_true] at hin
      exact hin o (by simpa using Array.mem_of_getElem? ho)
    refine wpOpIn_of_I hino ho (hop i o ho _ σ w hup hS) fun v w' hw' => ?_
    rw [act_put (operIn_dst hino)]
    refine wpAnyIn_of_I hf hin hop hQ f _ _ _ (by simpa using hsz) (by rw [fl_set hlt]; exact clo_on hcl ho hup.did) ?_ (by rw [fl_set hlt]; exact hw')
    rw [Array.toList_setIfInBounds, List.count_set]
    · have hb : listed.toList[i]'(by simpa using hlt) = false := by simpa using h0'
      have hpos : 0 < listed.toList.count false := List.count_pos_iff.2 (by rw [← hb]; exact List.getElem_mem _)
      rw [hb]; simp only [beq_self_eq_true, if_true]; simp; rw [Array.count_toList] at *; omega
    · simpa using hlt
/-- a region that draws, within whatever round -/
theorem wcdrawir [hm : Mix P] {id : Nat} {ops : List Oper} (S : (Nat → Bool) → Env → World → Prop) (h0 : ∀ wd, Frm w wd → S (fun _ => false) σ wd) (hop : StepsI P ops.toArray S 0 ops)
    (hend : ∀ L σ' w', (∀ k, k < ops.length → L k = true) → S L σ' w' → Q .normal ds σ' w') (hf : fwdB ops.toArray = true := by kernel_rfl) : WC P n ds (.region id ops.toArray true) Q σ w := by
  unfold WC
  intro hin
  have hin' : ops.all (operIn n ds.ro.isSome ops.toArray) = true := by simpa [codeIn] using hin
  refine wpIn_region_any hm.ok ?_
  have e0 : fl (Array.replicate ops.toArray.size false) = fun _ => false := by funext k; exact getD_replicate_false _ _
  refine wpAnyIn_of_I (S := S) (n := n) hf (by simpa using hin') (fun k o ho => ?_) ?_ _ _ _ _ (by simp) ?_ ?_ ?_
  · have := stepsI_get hop k o (by simpa using ho)
    rwa [Nat.zero_add] at this
  · intro L σ' w' hL hS
    exact ⟨ds.ds, σ', rfl, hend L σ' w' (by simpa using hL) hS⟩
  · rw [e0]; intro j oj _ hL; cases hL
  · simp
  · rw [e0]; exact h0 _ (Frm.drawn (Frm.refl w))
end
/-- what an operation leaves: its value, and where what it made lies -/
structure PD (X : Type) where
  v : Value
  p : Option Addr
  c : Nat
  b : Nat
  x : X
structure PlanB (X : Type) where
  pl : Nat → PD X → List Plot
  con : Nat → Option Nat
  base : Nat → List Plot
  fact : Nat → (Nat → PD X) → Prop
section
variable {X : Type}
def PlanB.live (p : PlanB X) (L : Nat → Bool) (j : Nat) : Bool := L j && (match p.con j with | some c => !L c | none => true)
def PlanB.mem (p : PlanB X) (n : Nat) (L : Nat → Bool) (a : Nat → PD X) : List Plot := ((List.range n).filter (p.live L)).flatMap fun j => p.pl j (a j)
/-- what operation k takes -/
def PlanB.takes (p : PlanB X) (n k : Nat) (a : Nat → PD X) : List Plot := ((List.range n).filter fun j => decide (p.con j = some k)).flatMap fun j => p.pl j (a j)
/-- what lay there before and is still to be taken -/
def PlanB.bmem (p : PlanB X) (n : Nat) (L : Nat → Bool) : List Plot := ((List.range n).filter fun j => !L j).flatMap p.base
def PlanB.S (p : PlanB X) (w0 : World) (cs : List Plot) (σ0 : Env) (ops : List Oper) (L : Nat → Bool) (σ : Env) (w : World) : Prop :=
  (∀ s, (∀ (k : Nat) (o : Oper), ops[k]? = some o → L k = true → o.dst ≠ some s) → σ s = σ0 s) ∧
  ∃ a : Nat → PD X, (∀ (k : Nat) (o : Oper), ops[k]? = some o → L k = true → (∀ d, o.dst = some d → σ d = (a k).v) ∧ p.fact k a) ∧ Sep w0 w (p.mem ops.length L a ++ (p.bmem ops.length L ++ cs))
/-- what k can see of what is to be taken by those that wait for it -/
def seesB (ops : List Oper) (k j : Nat) : Bool := decide (j ≠ k) && (match ops[j]? with | some oj => bindsOn oj k | none => false)
def PlanB.seen (p : PlanB X) (ops : List Oper) (k : Nat) : List Plot := ((List.range ops.length).filter (seesB ops k)).flatMap p.base
/-- how operation k goes, by the plan -/
def PlanB.Rule (p : PlanB X) (P : Program) (w0 : World) (cs : List Plot) (σ0 : Env) (ops : List Oper) (k : Nat) (o : Oper) : Prop :=
  ∀ (a : Nat → PD X) (σ : Env) (w : World) (rest : List Plot), (∀ s, (∀ (j : Nat) (o : Oper), ops[j]? = some o → j ≠ k → bindsOn o k = false → o.dst ≠ some s) → σ s = σ0 s) →
    (∀ (j : Nat) (oj : Oper), bindsOn o j = true → ops[j]? = some oj → (∀ d, oj.dst = some d → σ d = (a j).v) ∧ p.fact j a) → Sep w0 w (p.takes ops.length k a ++ (p.base k ++ (p.seen ops k ++ (cs ++ rest)))) →
    (Region.wanted o (yl ops.toArray σ) = true ∧ comes P (fun v w' => ∃ d, v = d.v ∧ p.fact k (setD a k d) ∧ Sep w0 w' (p.pl k d ++ (p.seen ops k ++ (cs ++ rest)))) ((execOp (evl σ) o).run P w)) ∨
    (Region.wanted o (yl ops.toArray σ) = false ∧ ∃ d, undef = d.v ∧ p.fact k (setD a k d) ∧ Sep w0 w (p.pl k d ++ (p.seen ops k ++ (cs ++ rest))))
def PlanB.Rules (p : PlanB X) (P : Program) (w0 : World) (cs : List Plot) (σ0 : Env) (ops : List Oper) : Nat → List Oper → Prop
  | _, [] => True
  | k, o :: l => p.Rule P w0 cs σ0 ops k o ∧ p.Rules P w0 cs σ0 ops (k + 1) l
theorem planb_core {p : PlanB X} {w0 : World} {cs : List Plot} {σ0 : Env} {ops : List Oper} (hB : planB p.con ops = true)
    (hF : ∀ (j : Nat) (oj : Oper) (a a' : Nat → PD X), ops[j]? = some oj → a j = a' j → (∀ i, bindsOn oj i = true → a i = a' i) → p.fact j a → p.fact j a') {k : Nat} {o : Oper} (hk : ops[k]? = some o) {L : Nat → Bool} {σ : Env} {w : World} (hu : Up ops.toArray o k L) (hS0 : p.S w0 cs σ0 ops L σ w) :
    ∃ (a : Nat → PD X) (rest : List Plot), (∀ s, (∀ (j : Nat) (o : Oper), ops[j]? = some o → j ≠ k → bindsOn o k = false → o.dst ≠ some s) → σ s = σ0 s) ∧
      (∀ (j : Nat) (oj : Oper), bindsOn o j = true → ops[j]? = some oj → (∀ d, oj.dst = some d → σ d = (a j).v) ∧ p.fact j a) ∧ Sep w0 w (p.takes ops.length k a ++ (p.base k ++ (p.seen ops k ++ (cs ++ rest)))) ∧
      ∀ d w', p.fact k (setD a k d) → Sep w0 w' (p.pl k d ++ (p.seen ops k ++ (cs ++ rest))) → p.S w0 cs σ0 ops (on L k) (updO σ o.dst (d.v)) w' := by
  obtain ⟨hσ, a, hA, hS⟩ := hS0
  have hkn : k < ops.length := by
    rcases Nat.lt_or_ge k ops.length with h | h
    · exact h
    · rw [List.getElem?_eq_none h] at hk; cases hk
  have hcon : ∀ j c, j < ops.length → p.con j = some c → ∃ oc, ops[c]? = some oc ∧ bindsOn oc j = true := by
    intro j c hj hc
    have := List.all_eq_true.1 hB j (List.mem_range.2 hj)
    rw [Bool.and_eq_true, hc] at this
    have h1 := this.1
    simp only [Bool.and_eq_true, decide_eq_true_eq] at h1
    rw [List.getElem?_eq_getElem h1.1] at h1
    exact ⟨_, List.getElem?_eq_getElem h1.1, h1.2⟩
  have hdst : ∀ (i j : Nat) (oi oj : Oper) (d : Nat), ops[i]? = some oi → ops[j]? = some oj → i ≠ j → oi.dst = some d → oj.dst ≠ some d := by
    intro i j oi oj d hi hj hne hd
    have hjn : j < ops.length := (List.getElem?_eq_some_iff.1 hj).1
    have hin : i < ops.length := (List.getElem?_eq_some_iff.1 hi).1
    have := List.all_eq_true.1 hB j (List.mem_range.2 hjn)
    rw [Bool.and_eq_true] at this
    have := List.all_eq_true.1 this.2 i (List.mem_range.2 hin)
    rw [hi, hj] at this
    simp only [hne, decide_false, Bool.false_or, hd, decide_eq_true_eq] at this
    exact this
  -- what k takes, and the rest
  let q : Nat → Bool := fun j => p.live L j && !decide (p.con j = some k)
  let rest0 : List Plot := ((List.range ops.length).filter q).flatMap fun j => p.pl j (a j)
  let bm : List Plot := p.bmem ops.length (on L k)
  let bm2 : List Plot := (((List.range ops.length).filter fun j => !(on L k) j).filter fun j => !(seesB ops k j)).flatMap p.base
  let rest : List Plot := rest0 ++ bm2
  have hsee : bm.Perm (p.seen ops k ++ bm2) := by
    have h2 := List.filter_append_perm (seesB ops k) ((List.range ops.length).filter fun j => !(on L k) j)
    have h3 : ((List.range ops.length).filter fun j => !(on L k) j).filter (seesB ops k) = (List.range ops.length).filter (seesB ops k) := by
      rw [List.filter_filter]
      refine List.filter_congr fun j hj => ?_
      cases hs : seesB ops k j with
      | false => rfl
      | true =>
        unfold seesB at hs
        rw [Bool.and_eq_true, decide_eq_true_eq] at hs
        obtain ⟨hne, hs⟩ := hs
        cases ho : ops[j]? with
        | none => rw [ho] at hs; cases hs
        | some oj =>
          rw [ho] at hs
          have := hu.ahead j oj (by simpa using ho) hs
          simp [on_ne L hne, this]
    rw [h3] at h2
    have h4 := h2.symm.flatMap_right p.base
    rw [List.flatMap_append] at h4
    exact h4
  have hbm : (p.bmem ops.length L).Perm (p.base k ++ bm) := by
    have hl : (List.range ops.length).filter (fun j => !L j) = (List.range ops.length).filter fun j => decide (j = k) || !(on L k) j := by
      refine List.filter_congr fun j hj => ?_
      by_cases e : j = k
      · subst e; simp [hu.now]
      · simp [e, on_ne L e]
    show (((List.range ops.length).filter fun j => !L j).flatMap p.base).Perm _
    rw [hl]
    refine ((filter_insert (q := fun j => !(on L k) j) (by simp [on_same]) List.nodup_range (List.mem_range.2 hkn)).flatMap_right p.base).trans ?_
    rw [List.flatMap_cons]
    exact List.Perm.refl _
  have htake : (List.range ops.length).filter (fun j => p.live L j && decide (p.con j = some k)) = (List.range ops.length).filter fun j => decide (p.con j = some k) := by
    refine List.filter_congr fun j hj => ?_
    by_cases hc : p.con j = some k
    · obtain ⟨oc, ho, hb⟩ := hcon j k (List.mem_range.1 hj) hc
      rw [hk] at ho
      injection ho with ho
      subst ho
      have h1 := hu.did j hb
      simp [PlanB.live, hc, h1, hu.now]
    · simp [hc]
  have hperm : (p.mem ops.length L a ++ (p.bmem ops.length L ++ cs)).Perm (p.takes ops.length k a ++ (p.base k ++ (p.seen ops k ++ (cs ++ rest)))) := by
    have h1 : ((List.range ops.length).filter fun j => decide (p.con j = some k)) ++ ((List.range ops.length).filter q) |>.Perm ((List.range ops.length).filter (p.live L)) := by
      have h2 := List.filter_append_perm (fun j => decide (p.con j = some k)) ((List.range ops.length).filter (p.live L))
      rw [List.filter_filter, List.filter_filter] at h2
      rw [← htake]
      refine List.Perm.trans ?_ h2
      refine List.Perm.append (List.Perm.of_eq (List.filter_congr fun j _ => Bool.and_comm _ _)) (List.Perm.of_eq (List.filter_congr fun j _ => Bool.and_comm _ _))
    have h3 := (h1.symm.flatMap_right fun j => p.pl j (a j))
    rw [List.flatMap_append] at h3
    exact (h3.append ((hbm.trans (List.Perm.append_left _ hsee)).append_right cs)).trans (perm6 _ _ _ _ _ _)
  have hlive : ∀ d, (p.mem ops.length (on L k) (setD a k d)).Perm (p.pl k d ++ rest0) := by
    intro d
    have hq : q k = false := by simp [q, PlanB.live, hu.now]
    have hl : (List.range ops.length).filter (p.live (on L k)) = (List.range ops.length).filter fun j => decide (j = k) || q j := by
      refine List.filter_congr fun j hj => ?_
      by_cases e : j = k
      · subst e
        have : (match p.con j with | some c => !(on L j c) | none => true) = true := by
          cases hc : p.con j with
          | none => rfl
          | some c =>
            obtain ⟨oc, ho, hb⟩ := hcon j c hkn hc
            have h1 := hu.ahead c oc (by simpa using ho) hb
            have hne : c ≠ j := by
              intro e
              subst e
              rw [hk] at ho
              injection ho with ho
              subst ho
              have := hu.did c hb
              rw [hu.now] at this
              cases this
            simp [on_ne L hne, h1]
        simp only [PlanB.live, on_same, this, Bool.and_self, decide_true, Bool.true_or]
      · simp only [PlanB.live, on_ne L e, decide_eq_false e, Bool.false_or, q]
        cases hc : p.con j with
        | none => simp
        | some c =>
          by_cases ec : c = k
          · subst ec; simp [on_same]
          · have : ¬ (some c = some k) := fun h => ec (Option.some.inj h)
            simp [on_ne L ec, this]
    unfold PlanB.mem
    rw [hl]
    refine ((filter_insert hq List.nodup_range (List.mem_range.2 hkn)).flatMap_right fun j => p.pl j (setD a k d j)).trans ?_
    rw [List.flatMap_cons, setD_same]
    refine List.Perm.append_left _ (List.Perm.of_eq ?_)
    show _ = List.flatMap (fun j => p.pl j (a j)) (List.filter q (List.range ops.length))
    rw [List.flatMap_def, List.flatMap_def]
    refine congrArg _ (List.map_congr_left fun j hj => ?_)
    have : j ≠ k := by
      rintro rfl
      have := (List.mem_filter.1 hj).2
      rw [hq] at this; cases this
    rw [setD_ne a d this]
  have hnew : ∀ d w', p.fact k (setD a k d) → Sep w0 w' (p.pl k d ++ (p.seen ops k ++ (cs ++ rest))) → p.S w0 cs σ0 ops (on L k) (updO σ o.dst (d.v)) w' := by
    intro d w' hf hS'
    refine ⟨fun s hs => ?_, setD a k d, fun j oj hj hL => ?_, ?_⟩
    · have h1 := hs k o hk (on_same L k)
      have hs' : ∀ (j : Nat) (oj : Oper), ops[j]? = some oj → L j = true → oj.dst ≠ some s := fun j oj hj hL => hs j oj hj (by
        by_cases e : j = k
        · subst e; exact on_same L j
        · rw [on_ne L e]; exact hL)
      cases hd : o.dst with
      | none => exact hσ s hs'
      | some dd =>
        rw [hd] at h1
        exact (upd_ne σ _ (fun e => h1 (by rw [e]))).trans (hσ s hs')
    · by_cases e : j = k
      · subst e
        rw [hk] at hj
        injection hj with hj
        subst hj
        refine ⟨fun dd hd => ?_, hf⟩
        rw [hd, setD_same]
        exact upd_same σ dd _
      · rw [on_ne L e] at hL
        obtain ⟨h1, h2⟩ := hA j oj hj hL
        refine ⟨fun dd hd => ?_, ?_⟩
        · rw [setD_ne a d e, ← h1 dd hd]
          cases hdo : o.dst with
          | none => rfl
          | some d2 =>
            have := hdst k j o oj d2 hk hj (fun e2 => e e2.symm) hdo
            exact upd_ne σ _ (fun e2 => this (by rw [hd, e2]))
        · refine hF j oj a _ hj (setD_ne a d e).symm (fun i hi => ?_) h2
          have : i ≠ k := by
            rintro rfl
            have := hu.ahead j oj (by simpa using hj) hi
            rw [this] at hL; cases hL
          exact (setD_ne a d this).symm
    · refine hS'.perm ?_
      exact (perm7 _ _ _ _ _).trans ((hlive d).symm.append (hsee.symm.append_right cs))
  exact ⟨a, rest, fun s hs => hσ s fun j oj hj hL => hs j oj hj (fun e => by rw [e, hu.now] at hL; cases hL) (by
      cases hb : bindsOn oj k with
      | false => rfl
      | true => have := hu.ahead j oj (by simpa using hj) hb; rw [this] at hL; cases hL), fun j oj hb hj => hA j oj hj (hu.did j hb), hS.perm hperm, hnew⟩
theorem planb_step {p : PlanB X} {P : Program} {w0 : World} {cs : List Plot} {σ0 : Env} {ops : List Oper} (hB : planB p.con ops = true)
    (hF : ∀ (j : Nat) (oj : Oper) (a a' : Nat → PD X), ops[j]? = some oj → a j = a' j → (∀ i, bindsOn oj i = true → a i = a' i) → p.fact j a → p.fact j a') {k : Nat} {o : Oper} (hk : ops[k]? = some o) (h : p.Rule P w0 cs σ0 ops k o) : StepI P ops.toArray (p.S w0 cs σ0 ops) k o := by
  intro L σ w hu hS0
  obtain ⟨a, rest, h1, h2, h3, hnew⟩ := planb_core hB hF hk hu hS0
  rcases h a σ w rest h1 h2 h3 with ⟨h1, h2⟩ | ⟨h1, d, h2, h3, h4⟩
  · refine .inl ⟨h1, comes_mono (fun v w' => ?_) h2⟩
    rintro ⟨d, rfl, hf, hS'⟩
    exact hnew d w' hf hS'
  · refine .inr ⟨h1, ?_⟩
    rw [h2]
    exact hnew d w h3 h4
theorem planb_steps {p : PlanB X} {P : Program} {w0 : World} {cs : List Plot} {σ0 : Env} {ops : List Oper} (hB : planB p.con ops = true)
    (hF : ∀ (j : Nat) (oj : Oper) (a a' : Nat → PD X), ops[j]? = some oj → a j = a' j → (∀ i, bindsOn oj i = true → a i = a' i) → p.fact j a → p.fact j a') : ∀ (l : List Oper) (k : Nat), (∀ j o, l[j]? = some o → ops[k + j]? = some o) → p.Rules P w0 cs σ0 ops k l → StepsI P ops.toArray (p.S w0 cs σ0 ops) k l
  | [], _, _, _ => trivial
  | o :: l, k, hl, hr => ⟨planb_step hB hF (by simpa using hl 0 o rfl) hr.1, planb_steps hB hF l (k + 1) (fun j o' h => by rw [show k + 1 + j = k + (j + 1) from by omega]; exact hl (j + 1) o' (by simpa using h)) hr.2⟩
/-- a region that draws, by a plan -/
theorem wcplanb {P : Program} [hm : Mix P] {n : Nat} {ds : Ctx} {Q : Exit → Ctx → Env → World → Prop} {σ : Env} {w w0 : World} {id : Nat} {ops : List Oper} {cs b : List Plot} (p : PlanB X) (d0 : PD X) (hS : Sep w0 w (b ++ cs)) (hb : (List.range ops.length).flatMap p.base = b)
    (hF : ∀ (j : Nat) (oj : Oper) (a a' : Nat → PD X), ops[j]? = some oj → a j = a' j → (∀ i, bindsOn oj i = true → a i = a' i) → p.fact j a → p.fact j a')
    (hR : p.Rules P w0 cs σ ops 0 ops)
    (hend : ∀ (a : Nat → PD X) σ' w', (∀ s, (∀ (k : Nat) (o : Oper), ops[k]? = some o → o.dst ≠ some s) → σ' s = σ s) → (∀ (k : Nat) (o : Oper), ops[k]? = some o → (∀ d, o.dst = some d → σ' d = (a k).v) ∧ p.fact k a) →
      Sep w0 w' (((List.range ops.length).filter fun j => (p.con j).isNone).flatMap (fun j => p.pl j (a j)) ++ cs) → Q .normal ds σ' w')
    (hB : planB p.con ops = true := by kernel_rfl) (hf : fwdB ops.toArray = true := by kernel_rfl) : WC P n ds (.region id ops.toArray true) Q σ w := by
  refine wcdrawir (p.S w0 cs σ ops) (fun wd hwd => ⟨fun _ _ => rfl, fun _ => d0, fun _ _ _ h => absurd h Bool.false_ne_true, ?_⟩) (planb_steps hB hF ops 0 (fun j o h => by rwa [Nat.zero_add]) hR) ?_ hf
  · have e : p.mem ops.length (fun _ => false) (fun _ => d0) = [] := by
      unfold PlanB.mem
      rw [List.filter_eq_nil_iff.2 (by intro j _; simp [PlanB.live])]
      rfl
    have e2 : p.bmem ops.length (fun _ => false) = b := by
      rw [← hb]; unfold PlanB.bmem
      rw [List.filter_eq_self.2 (by intro j _; rfl)]
    rw [e, e2]
    exact hS.grow hwd
  · rintro L σ' w' hL ⟨hσ, a, hA, hS'⟩
    refine hend a σ' w' (fun s hs => hσ s fun k o hk _ => hs k o hk) (fun k o hk => hA k o hk (hL k (List.getElem?_eq_some_iff.1 hk).1)) ?_
    have e2 : p.bmem ops.length L = [] := by
      unfold PlanB.bmem
      rw [List.filter_eq_nil_iff.2 (by intro j hj; simp [hL j (List.mem_range.1 hj)])]
      rfl
    rw [e2] at hS'
    refine hS'.perm (List.Perm.append_right _ (List.Perm.of_eq ?_))
    unfold PlanB.mem
    congr 1
    refine List.filter_congr fun j hj => ?_
    have h1 := hL j (List.mem_range.1 hj)
    simp only [PlanB.live, h1, Bool.true_and]
    cases hc : p.con j with
    | none => rfl
    | some c =>
      have := List.all_eq_true.1 hB j hj
      rw [Bool.and_eq_true, hc] at this
      have h2 := this.1
      simp only [Bool.and_eq_true, decide_eq_true_eq] at h2
      simp [hL c h2.1]
end
theorem notDstB {ops : List Oper} {s k : Nat} (h : ((List.range ops.length).all fun j => match ops[j]? with | some o => decide (j = k) || bindsOn o k || decide (o.dst ≠ some s) | none => true) = true) :
    ∀ (j : Nat) (o : Oper), ops[j]? = some o → j ≠ k → bindsOn o k = false → o.dst ≠ some s := fun j o hj hne hb => by
  have := List.all_eq_true.1 h j (List.mem_range.2 (List.getElem?_eq_some_iff.1 hj).1)
  rw [hj] at this
  simpa [hne, hb] using this
end Go.Sv

/-
  sieveref18: At.
-/
set_option linter.unusedSimpArgs false
set_option linter.unusedVariables false
set_option linter.unnecessarySimpa false
namespace Go.Proofs.YthgbpgjpnaanlaaDoor
open Go Go.Sv Go.RowKit

def Lk.cells (k : Lk) (q : Option Addr) (c : Nat) : List Value := [.slice q k.stack.length c, int k.most, int k.at_, int k.err, int k.good]

end Go.Proofs.YthgbpgjpnaanlaaDoor

/- This seat's function types as instances (made by a program of ours). -/
namespace Go.Proofs.YthgbpgjpnaanlaaDoor
open Go Go.Sv
instance : Agg Tryd.prog 1 false := ⟨_, Tryd.underlying1, rfl⟩
instance : Inf Tryd.prog 1 (.nilFunc) 1 8 := ⟨by kernel_rfl⟩
instance : Agg Tryd.prog 22 false := ⟨_, Tryd.underlying22, rfl⟩
instance : Inf Tryd.prog 22 (.nilFunc) 1 8 := ⟨by kernel_rfl⟩
instance : Agg Tryd.prog 24 false := ⟨_, Tryd.underlying24, rfl⟩
instance : Inf Tryd.prog 24 (.nilFunc) 1 8 := ⟨by kernel_rfl⟩
instance : Agg Tryd.prog 26 false := ⟨_, Tryd.underlying26, rfl⟩
instance : Inf Tryd.prog 26 (.nilFunc) 1 8 := ⟨by kernel_rfl⟩
instance : Agg Tryd.prog 28 false := ⟨_, Tryd.underlying28, rfl⟩
instance : Inf Tryd.prog 28 (.nilFunc) 1 8 := ⟨by kernel_rfl⟩
instance : Agg Tryd.prog 31 false := ⟨_, Tryd.underlying31, rfl⟩
instance : Inf Tryd.prog 31 (.nilFunc) 1 8 := ⟨by kernel_rfl⟩
instance : Agg Tryd.prog 33 false := ⟨_, Tryd.underlying33, rfl⟩
instance : Inf Tryd.prog 33 (.nilFunc) 1 8 := ⟨by kernel_rfl⟩
instance : Agg Tryd.prog 36 false := ⟨_, Tryd.underlying36, rfl⟩
instance : Inf Tryd.prog 36 (.nilFunc) 1 8 := ⟨by kernel_rfl⟩
instance : Agg Tryd.prog 37 false := ⟨_, Tryd.underlying37, rfl⟩
instance : Inf Tryd.prog 37 (.nilFunc) 1 8 := ⟨by kernel_rfl⟩
instance : Agg Tryd.prog 38 false := ⟨_, Tryd.underlying38, rfl⟩
instance : Inf Tryd.prog 38 (.nilFunc) 1 8 := ⟨by kernel_rfl⟩
instance : Agg Tryd.prog 39 false := ⟨_, Tryd.underlying39, rfl⟩
instance : Inf Tryd.prog 39 (.nilFunc) 1 8 := ⟨by kernel_rfl⟩
instance : Agg Tryd.prog 40 false := ⟨_, Tryd.underlying40, rfl⟩
instance : Inf Tryd.prog 40 (.nilFunc) 1 8 := ⟨by kernel_rfl⟩
instance : Agg Tryd.prog 41 false := ⟨_, Tryd.underlying41, rfl⟩
instance : Inf Tryd.prog 41 (.nilFunc) 1 8 := ⟨by kernel_rfl⟩
instance : Agg Tryd.prog 42 false := ⟨_, Tryd.underlying42, rfl⟩
instance : Inf Tryd.prog 42 (.nilFunc) 1 8 := ⟨by kernel_rfl⟩
instance : Agg Tryd.prog 43 false := ⟨_, Tryd.underlying43, rfl⟩
instance : Inf Tryd.prog 43 (.nilFunc) 1 8 := ⟨by kernel_rfl⟩
instance : Agg Tryd.prog 44 false := ⟨_, Tryd.underlying44, rfl⟩
instance : Inf Tryd.prog 44 (.nilFunc) 1 8 := ⟨by kernel_rfl⟩
instance : Agg Tryd.prog 49 false := ⟨_, Tryd.underlying49, rfl⟩
instance : Inf Tryd.prog 49 (.nilFunc) 1 8 := ⟨by kernel_rfl⟩
instance : Agg Tryd.prog 52 false := ⟨_, Tryd.underlying52, rfl⟩
instance : Inf Tryd.prog 52 (.nilFunc) 1 8 := ⟨by kernel_rfl⟩
instance : Agg Tryd.prog 53 false := ⟨_, Tryd.underlying53, rfl⟩
instance : Inf Tryd.prog 53 (.nilFunc) 1 8 := ⟨by kernel_rfl⟩
instance : Agg Tryd.prog 54 false := ⟨_, Tryd.underlying54, rfl⟩
instance : Inf Tryd.prog 54 (.nilFunc) 1 8 := ⟨by kernel_rfl⟩
instance : Agg Tryd.prog 55 false := ⟨_, Tryd.underlying55, rfl⟩
instance : Inf Tryd.prog 55 (.nilFunc) 1 8 := ⟨by kernel_rfl⟩
instance : Agg Tryd.prog 58 false := ⟨_, Tryd.underlying58, rfl⟩
instance : Inf Tryd.prog 58 (.nilFunc) 1 8 := ⟨by kernel_rfl⟩
instance : Agg Tryd.prog 59 false := ⟨_, Tryd.underlying59, rfl⟩
instance : Inf Tryd.prog 59 (.nilFunc) 1 8 := ⟨by kernel_rfl⟩
instance : Agg Tryd.prog 61 false := ⟨_, Tryd.underlying61, rfl⟩
instance : Inf Tryd.prog 61 (.nilFunc) 1 8 := ⟨by kernel_rfl⟩
instance : Agg Tryd.prog 62 false := ⟨_, Tryd.underlying62, rfl⟩
instance : Inf Tryd.prog 62 (.nilFunc) 1 8 := ⟨by kernel_rfl⟩
instance : Agg Tryd.prog 63 false := ⟨_, Tryd.underlying63, rfl⟩
instance : Inf Tryd.prog 63 (.nilFunc) 1 8 := ⟨by kernel_rfl⟩
instance : Agg Tryd.prog 64 false := ⟨_, Tryd.underlying64, rfl⟩
instance : Inf Tryd.prog 64 (.nilFunc) 1 8 := ⟨by kernel_rfl⟩
instance : Agg Tryd.prog 65 false := ⟨_, Tryd.underlying65, rfl⟩
instance : Inf Tryd.prog 65 (.nilFunc) 1 8 := ⟨by kernel_rfl⟩
instance : Agg Tryd.prog 66 false := ⟨_, Tryd.underlying66, rfl⟩
instance : Inf Tryd.prog 66 (.nilFunc) 1 8 := ⟨by kernel_rfl⟩
instance : Agg Tryd.prog 67 false := ⟨_, Tryd.underlying67, rfl⟩
instance : Inf Tryd.prog 67 (.nilFunc) 1 8 := ⟨by kernel_rfl⟩
instance : Agg Tryd.prog 68 false := ⟨_, Tryd.underlying68, rfl⟩
instance : Inf Tryd.prog 68 (.nilFunc) 1 8 := ⟨by kernel_rfl⟩
instance : Agg Tryd.prog 69 false := ⟨_, Tryd.underlying69, rfl⟩
instance : Inf Tryd.prog 69 (.nilFunc) 1 8 := ⟨by kernel_rfl⟩
instance : Agg Tryd.prog 73 false := ⟨_, Tryd.underlying73, rfl⟩
instance : Inf Tryd.prog 73 (.nilFunc) 1 8 := ⟨by kernel_rfl⟩
instance : Agg Tryd.prog 75 false := ⟨_, Tryd.underlying75, rfl⟩
instance : Inf Tryd.prog 75 (.nilFunc) 1 8 := ⟨by kernel_rfl⟩
instance : Agg Tryd.prog 77 false := ⟨_, Tryd.underlying77, rfl⟩
instance : Inf Tryd.prog 77 (.nilFunc) 1 8 := ⟨by kernel_rfl⟩
instance : Agg Tryd.prog 78 false := ⟨_, Tryd.underlying78, rfl⟩
instance : Inf Tryd.prog 78 (.nilFunc) 1 8 := ⟨by kernel_rfl⟩
instance : Agg Tryd.prog 79 false := ⟨_, Tryd.underlying79, rfl⟩
instance : Inf Tryd.prog 79 (.nilFunc) 1 8 := ⟨by kernel_rfl⟩
instance : Agg Tryd.prog 80 false := ⟨_, Tryd.underlying80, rfl⟩
instance : Inf Tryd.prog 80 (.nilFunc) 1 8 := ⟨by kernel_rfl⟩
instance : Agg Tryd.prog 81 false := ⟨_, Tryd.underlying81, rfl⟩
instance : Inf Tryd.prog 81 (.nilFunc) 1 8 := ⟨by kernel_rfl⟩
instance : Agg Tryd.prog 82 false := ⟨_, Tryd.underlying82, rfl⟩
instance : Inf Tryd.prog 82 (.nilFunc) 1 8 := ⟨by kernel_rfl⟩
instance : Agg Tryd.prog 83 false := ⟨_, Tryd.underlying83, rfl⟩
instance : Inf Tryd.prog 83 (.nilFunc) 1 8 := ⟨by kernel_rfl⟩
instance : Agg Tryd.prog 84 false := ⟨_, Tryd.underlying84, rfl⟩
instance : Inf Tryd.prog 84 (.nilFunc) 1 8 := ⟨by kernel_rfl⟩
instance : Agg Tryd.prog 86 false := ⟨_, Tryd.underlying86, rfl⟩
instance : Inf Tryd.prog 86 (.nilFunc) 1 8 := ⟨by kernel_rfl⟩
instance : Agg Tryd.prog 92 false := ⟨_, Tryd.underlying92, rfl⟩
instance : Inf Tryd.prog 92 (.nilFunc) 1 8 := ⟨by kernel_rfl⟩
instance : Agg Tryd.prog 94 false := ⟨_, Tryd.underlying94, rfl⟩
instance : Inf Tryd.prog 94 (.nilFunc) 1 8 := ⟨by kernel_rfl⟩
instance : Agg Tryd.prog 95 false := ⟨_, Tryd.underlying95, rfl⟩
instance : Inf Tryd.prog 95 (.nilFunc) 1 8 := ⟨by kernel_rfl⟩
instance : Agg Tryd.prog 96 false := ⟨_, Tryd.underlying96, rfl⟩
instance : Inf Tryd.prog 96 (.nilFunc) 1 8 := ⟨by kernel_rfl⟩
instance : Agg Tryd.prog 97 false := ⟨_, Tryd.underlying97, rfl⟩
instance : Inf Tryd.prog 97 (.nilFunc) 1 8 := ⟨by kernel_rfl⟩
instance : Agg Tryd.prog 98 false := ⟨_, Tryd.underlying98, rfl⟩
instance : Inf Tryd.prog 98 (.nilFunc) 1 8 := ⟨by kernel_rfl⟩
instance : Agg Tryd.prog 105 false := ⟨_, Tryd.underlying105, rfl⟩
instance : Inf Tryd.prog 105 (.nilFunc) 1 8 := ⟨by kernel_rfl⟩
instance : Agg Tryd.prog 106 false := ⟨_, Tryd.underlying106, rfl⟩
instance : Inf Tryd.prog 106 (.nilFunc) 1 8 := ⟨by kernel_rfl⟩
instance : Agg Tryd.prog 109 false := ⟨_, Tryd.underlying109, rfl⟩
instance : Inf Tryd.prog 109 (.nilFunc) 1 8 := ⟨by kernel_rfl⟩
instance : Agg Tryd.prog 110 false := ⟨_, Tryd.underlying110, rfl⟩
instance : Inf Tryd.prog 110 (.nilFunc) 1 8 := ⟨by kernel_rfl⟩
instance : Agg Tryd.prog 111 false := ⟨_, Tryd.underlying111, rfl⟩
instance : Inf Tryd.prog 111 (.nilFunc) 1 8 := ⟨by kernel_rfl⟩
instance : Agg Tryd.prog 112 false := ⟨_, Tryd.underlying112, rfl⟩
instance : Inf Tryd.prog 112 (.nilFunc) 1 8 := ⟨by kernel_rfl⟩
instance : Agg Tryd.prog 115 false := ⟨_, Tryd.underlying115, rfl⟩
instance : Inf Tryd.prog 115 (.nilFunc) 1 8 := ⟨by kernel_rfl⟩
instance : Agg Tryd.prog 116 false := ⟨_, Tryd.underlying116, rfl⟩
instance : Inf Tryd.prog 116 (.nilFunc) 1 8 := ⟨by kernel_rfl⟩
instance : Agg Tryd.prog 120 false := ⟨_, Tryd.underlying120, rfl⟩
instance : Inf Tryd.prog 120 (.nilFunc) 1 8 := ⟨by kernel_rfl⟩
instance : Agg Tryd.prog 121 false := ⟨_, Tryd.underlying121, rfl⟩
instance : Inf Tryd.prog 121 (.nilFunc) 1 8 := ⟨by kernel_rfl⟩
instance : Agg Tryd.prog 123 false := ⟨_, Tryd.underlying123, rfl⟩
instance : Inf Tryd.prog 123 (.nilFunc) 1 8 := ⟨by kernel_rfl⟩
instance : Agg Tryd.prog 124 false := ⟨_, Tryd.underlying124, rfl⟩
instance : Inf Tryd.prog 124 (.nilFunc) 1 8 := ⟨by kernel_rfl⟩
instance : Agg Tryd.prog 126 false := ⟨_, Tryd.underlying126, rfl⟩
instance : Inf Tryd.prog 126 (.nilFunc) 1 8 := ⟨by kernel_rfl⟩
instance : Agg Tryd.prog 129 false := ⟨_, Tryd.underlying129, rfl⟩
instance : Inf Tryd.prog 129 (.nilFunc) 1 8 := ⟨by kernel_rfl⟩
instance : Agg Tryd.prog 130 false := ⟨_, Tryd.underlying130, rfl⟩
instance : Inf Tryd.prog 130 (.nilFunc) 1 8 := ⟨by kernel_rfl⟩
instance : Agg Tryd.prog 131 false := ⟨_, Tryd.underlying131, rfl⟩
instance : Inf Tryd.prog 131 (.nilFunc) 1 8 := ⟨by kernel_rfl⟩
instance : Agg Tryd.prog 132 false := ⟨_, Tryd.underlying132, rfl⟩
instance : Inf Tryd.prog 132 (.nilFunc) 1 8 := ⟨by kernel_rfl⟩
instance : Agg Tryd.prog 134 false := ⟨_, Tryd.underlying134, rfl⟩
instance : Inf Tryd.prog 134 (.nilFunc) 1 8 := ⟨by kernel_rfl⟩
instance : Agg Tryd.prog 135 false := ⟨_, Tryd.underlying135, rfl⟩
instance : Inf Tryd.prog 135 (.nilFunc) 1 8 := ⟨by kernel_rfl⟩
instance : Agg Tryd.prog 137 false := ⟨_, Tryd.underlying137, rfl⟩
instance : Inf Tryd.prog 137 (.nilFunc) 1 8 := ⟨by kernel_rfl⟩
instance : Agg Tryd.prog 138 false := ⟨_, Tryd.underlying138, rfl⟩
instance : Inf Tryd.prog 138 (.nilFunc) 1 8 := ⟨by kernel_rfl⟩
instance : Agg Tryd.prog 139 false := ⟨_, Tryd.underlying139, rfl⟩
instance : Inf Tryd.prog 139 (.nilFunc) 1 8 := ⟨by kernel_rfl⟩
instance : Agg Tryd.prog 141 false := ⟨_, Tryd.underlying141, rfl⟩
instance : Inf Tryd.prog 141 (.nilFunc) 1 8 := ⟨by kernel_rfl⟩
instance : Agg Tryd.prog 144 false := ⟨_, Tryd.underlying144, rfl⟩
instance : Inf Tryd.prog 144 (.nilFunc) 1 8 := ⟨by kernel_rfl⟩
instance : Agg Tryd.prog 146 false := ⟨_, Tryd.underlying146, rfl⟩
instance : Inf Tryd.prog 146 (.nilFunc) 1 8 := ⟨by kernel_rfl⟩
instance : Agg Tryd.prog 147 false := ⟨_, Tryd.underlying147, rfl⟩
instance : Inf Tryd.prog 147 (.nilFunc) 1 8 := ⟨by kernel_rfl⟩
instance : Agg Tryd.prog 149 false := ⟨_, Tryd.underlying149, rfl⟩
instance : Inf Tryd.prog 149 (.nilFunc) 1 8 := ⟨by kernel_rfl⟩
instance : Agg Tryd.prog 152 false := ⟨_, Tryd.underlying152, rfl⟩
instance : Inf Tryd.prog 152 (.nilFunc) 1 8 := ⟨by kernel_rfl⟩
instance : Agg Tryd.prog 153 false := ⟨_, Tryd.underlying153, rfl⟩
instance : Inf Tryd.prog 153 (.nilFunc) 1 8 := ⟨by kernel_rfl⟩
instance : Agg Tryd.prog 155 false := ⟨_, Tryd.underlying155, rfl⟩
instance : Inf Tryd.prog 155 (.nilFunc) 1 8 := ⟨by kernel_rfl⟩
instance : Agg Tryd.prog 156 false := ⟨_, Tryd.underlying156, rfl⟩
instance : Inf Tryd.prog 156 (.nilFunc) 1 8 := ⟨by kernel_rfl⟩
instance : Agg Tryd.prog 158 false := ⟨_, Tryd.underlying158, rfl⟩
instance : Inf Tryd.prog 158 (.nilFunc) 1 8 := ⟨by kernel_rfl⟩
instance : Agg Tryd.prog 161 false := ⟨_, Tryd.underlying161, rfl⟩
instance : Inf Tryd.prog 161 (.nilFunc) 1 8 := ⟨by kernel_rfl⟩
instance : Agg Tryd.prog 162 false := ⟨_, Tryd.underlying162, rfl⟩
instance : Inf Tryd.prog 162 (.nilFunc) 1 8 := ⟨by kernel_rfl⟩
instance : Agg Tryd.prog 164 false := ⟨_, Tryd.underlying164, rfl⟩
instance : Inf Tryd.prog 164 (.nilFunc) 1 8 := ⟨by kernel_rfl⟩
instance : Agg Tryd.prog 166 false := ⟨_, Tryd.underlying166, rfl⟩
instance : Inf Tryd.prog 166 (.nilFunc) 1 8 := ⟨by kernel_rfl⟩
instance : Agg Tryd.prog 167 false := ⟨_, Tryd.underlying167, rfl⟩
instance : Inf Tryd.prog 167 (.nilFunc) 1 8 := ⟨by kernel_rfl⟩
instance : Agg Tryd.prog 168 false := ⟨_, Tryd.underlying168, rfl⟩
instance : Inf Tryd.prog 168 (.nilFunc) 1 8 := ⟨by kernel_rfl⟩
instance : Agg Tryd.prog 169 false := ⟨_, Tryd.underlying169, rfl⟩
instance : Inf Tryd.prog 169 (.nilFunc) 1 8 := ⟨by kernel_rfl⟩
instance : Agg Tryd.prog 170 false := ⟨_, Tryd.underlying170, rfl⟩
instance : Inf Tryd.prog 170 (.nilFunc) 1 8 := ⟨by kernel_rfl⟩
instance : Agg Tryd.prog 171 false := ⟨_, Tryd.underlying171, rfl⟩
instance : Inf Tryd.prog 171 (.nilFunc) 1 8 := ⟨by kernel_rfl⟩
instance : Agg Tryd.prog 172 false := ⟨_, Tryd.underlying172, rfl⟩
instance : Inf Tryd.prog 172 (.nilFunc) 1 8 := ⟨by kernel_rfl⟩
instance : Agg Tryd.prog 173 false := ⟨_, Tryd.underlying173, rfl⟩
instance : Inf Tryd.prog 173 (.nilFunc) 1 8 := ⟨by kernel_rfl⟩
instance : Agg Tryd.prog 175 false := ⟨_, Tryd.underlying175, rfl⟩
instance : Inf Tryd.prog 175 (.nilFunc) 1 8 := ⟨by kernel_rfl⟩
instance : Agg Tryd.prog 176 false := ⟨_, Tryd.underlying176, rfl⟩
instance : Inf Tryd.prog 176 (.nilFunc) 1 8 := ⟨by kernel_rfl⟩
instance : Agg Tryd.prog 177 false := ⟨_, Tryd.underlying177, rfl⟩
instance : Inf Tryd.prog 177 (.nilFunc) 1 8 := ⟨by kernel_rfl⟩
instance : Agg Tryd.prog 182 false := ⟨_, Tryd.underlying182, rfl⟩
instance : Inf Tryd.prog 182 (.nilFunc) 1 8 := ⟨by kernel_rfl⟩
instance : Agg Tryd.prog 184 false := ⟨_, Tryd.underlying184, rfl⟩
instance : Inf Tryd.prog 184 (.nilFunc) 1 8 := ⟨by kernel_rfl⟩
instance : Agg Tryd.prog 185 false := ⟨_, Tryd.underlying185, rfl⟩
instance : Inf Tryd.prog 185 (.nilFunc) 1 8 := ⟨by kernel_rfl⟩
instance : Agg Tryd.prog 186 false := ⟨_, Tryd.underlying186, rfl⟩
instance : Inf Tryd.prog 186 (.nilFunc) 1 8 := ⟨by kernel_rfl⟩
instance : Agg Tryd.prog 187 false := ⟨_, Tryd.underlying187, rfl⟩
instance : Inf Tryd.prog 187 (.nilFunc) 1 8 := ⟨by kernel_rfl⟩
instance : Agg Tryd.prog 188 false := ⟨_, Tryd.underlying188, rfl⟩
instance : Inf Tryd.prog 188 (.nilFunc) 1 8 := ⟨by kernel_rfl⟩
instance : Agg Tryd.prog 190 false := ⟨_, Tryd.underlying190, rfl⟩
instance : Inf Tryd.prog 190 (.nilFunc) 1 8 := ⟨by kernel_rfl⟩
instance : Agg Tryd.prog 191 false := ⟨_, Tryd.underlying191, rfl⟩
instance : Inf Tryd.prog 191 (.nilFunc) 1 8 := ⟨by kernel_rfl⟩
instance : Agg Tryd.prog 197 false := ⟨_, Tryd.underlying197, rfl⟩
instance : Inf Tryd.prog 197 (.nilFunc) 1 8 := ⟨by kernel_rfl⟩
instance : Agg Tryd.prog 205 false := ⟨_, Tryd.underlying205, rfl⟩
instance : Inf Tryd.prog 205 (.nilFunc) 1 8 := ⟨by kernel_rfl⟩
instance : Agg Tryd.prog 208 false := ⟨_, Tryd.underlying208, rfl⟩
instance : Inf Tryd.prog 208 (.nilFunc) 1 8 := ⟨by kernel_rfl⟩
instance : Agg Tryd.prog 209 false := ⟨_, Tryd.underlying209, rfl⟩
instance : Inf Tryd.prog 209 (.nilFunc) 1 8 := ⟨by kernel_rfl⟩
instance : Agg Tryd.prog 210 false := ⟨_, Tryd.underlying210, rfl⟩
instance : Inf Tryd.prog 210 (.nilFunc) 1 8 := ⟨by kernel_rfl⟩
instance : Agg Tryd.prog 211 false := ⟨_, Tryd.underlying211, rfl⟩
instance : Inf Tryd.prog 211 (.nilFunc) 1 8 := ⟨by kernel_rfl⟩
instance : Agg Tryd.prog 218 false := ⟨_, Tryd.underlying218, rfl⟩
instance : Inf Tryd.prog 218 (.nilFunc) 1 8 := ⟨by kernel_rfl⟩
instance : Agg Tryd.prog 224 false := ⟨_, Tryd.underlying224, rfl⟩
instance : Inf Tryd.prog 224 (.nilFunc) 1 8 := ⟨by kernel_rfl⟩
instance : Agg Tryd.prog 227 false := ⟨_, Tryd.underlying227, rfl⟩
instance : Inf Tryd.prog 227 (.nilFunc) 1 8 := ⟨by kernel_rfl⟩
end Go.Proofs.YthgbpgjpnaanlaaDoor

/-
  General steps: what is skipped, what is written, loops over functions (out of several texts).
-/
set_option linter.unusedSimpArgs false
set_option linter.unusedVariables false
set_option linter.unnecessarySimpa false
namespace Go.Sv
open Go Go.RowKit
/-- a guarded operation whose guard says no -/
theorem wlskipg {P : Program} {n : Nat} {ds : Ctx} {ops : Array Oper} {Q : Exit → Ctx → Env → World → Prop} {rest : List Oper} {σ : GE} {w : World} {d : Nat} {op : Op} {ty : TypeId} {pos : String} {af : Array Edge} {j dj : Nat} {want b c : Bool} (v : Value)
    (h : WL P n ds ops Q rest (real (updG σ d ⟨v, false⟩)) w)
    (hj : (ops[j]?).bind (·.dst) = some dj := by rfl) (hσ : σ dj = ⟨.bool c, b⟩ := by rfl) (hgt : (b && (c == want)) = false) :
    WL P n ds ops Q (⟨some d, op, ty, pos, af, some (j, want)⟩ :: rest) (real σ) w := by
  have hw := wanted_real (ops := ops) (o := ⟨some d, op, ty, pos, af, some (j, want)⟩) rfl hj hσ
  rw [hgt] at hw
  refine WL_skip hw ?_
  rw [← real_upd] at h
  exact h
/-- a store into a block of one's own -/
theorem y_sst {P : Program} {σ : Env} {w0 w : World} {cs : List Plot} {ty t : TypeId} {pos : String} {af : Array Edge} {g : Option (Nat × Bool)} {x y : Operand} {zv v : Value} {size bytes b j : Nat} {l : List Value} [hi : Inf P t zv size bytes] (hS : Sep w0 w cs) (i : Nat) (hc : cs[i]? = some (pOwn b l)) (hx : evl σ x = ptrAt (pb b) j) (hy : evl σ y = v) (hv : v.cells.size = size) (hk : j + size ≤ l.length) (h1 : ∀ u ∈ v.cells.toList, u.oneCell' = true) :
    ∃ w', Y P σ ⟨none, .store t x y, ty, pos, af, g⟩ w undef w' ∧ Sep w0 w' (cs.set i (pOwn b (l.take j ++ v.cells.toList ++ l.drop (j + size)))) := by
  obtain ⟨w', hr, h2, h3⟩ := run_store_own (P := P) (t := t) (hS.own i hc) hv hk h1
  refine ⟨w', Y.skip ?_, hS.upd i hc (lm_own h3) h2⟩
  simp only [execOp, hx, hy]
  rw [Sem.run_bind, hr]
  rfl
/-- all blocks of a list as they were -/
def pKeep (w1 : World) (F : List Nat) : Plot where
  foot := F.filter fun b => decide (b < w1.heap.size)
  ok w := ∀ b ∈ F, b < w1.heap.size → w.heap[b]? = w1.heap[b]?
  view := (none, [])
  loc _ _ h hb := fun b hF hlt => (hb b (List.mem_filter.2 ⟨hF, by simpa using hlt⟩)).trans (h b hF hlt)
  lt w h x hx := by
    obtain ⟨h1, h2⟩ := List.mem_filter.1 hx
    have h3 : x < w1.heap.size := by simpa using h2
    have h4 := h x h1 h3
    rw [Array.getElem?_eq_getElem h3] at h4
    exact (Array.getElem?_eq_some_iff.1 h4).1
  sg _ _ := .inl rfl
def feet (cs : List Plot) : List Nat := cs.flatMap Plot.foot
/-- the blocks that belong to no piece -/
def others (w0 w1 : World) (cs : List Plot) : List Nat := (List.range w1.heap.size).filter fun x => decide (w0.heap.size ≤ x) && !(decide (x ∈ feet cs))
section
variable {w0 w1 w2 w w' : World} {cs ds : List Plot} {B : Nat}
theorem Sep.keep (h : Sep w0 w1 cs) : Sep w0 w1 (pKeep w1 (others w0 w1 cs) :: cs) := by
  refine ⟨h.frm, ?_, ?_, ?_⟩
  · intro c hc
    rcases List.mem_cons.1 hc with rfl | hc
    · exact fun _ _ _ => rfl
    · exact h.ok c hc
  · intro c hc x hx
    rcases List.mem_cons.1 hc with rfl | hc
    · have := (List.mem_filter.1 (List.mem_filter.1 hx).1).2
      simp only [Bool.and_eq_true, decide_eq_true_eq] at this
      exact this.1
    · exact h.low c hc x hx
  · rw [List.pairwise_cons]
    refine ⟨fun c hc x hx hx' => ?_, h.apart⟩
    have := (List.mem_filter.1 (List.mem_filter.1 hx).1).2
    simp only [Bool.and_eq_true, Bool.not_eq_true', decide_eq_false_iff_not] at this
    exact this.2 (List.mem_flatMap.2 ⟨c, hc, hx'⟩)
theorem Sep.same (h : Sep w0 w1 cs) (hs : Same B w1 w2) (h0 : w0.heap.size ≤ B) (hB : ∀ x ∈ feet cs, x < B) : Sep w0 w2 cs :=
  ⟨⟨hs.os.trans h.frm.os, hs.tape.trans h.frm.tape, hs.output.trans h.frm.output, Nat.le_trans h0 hs.size, fun k hk => (hs.block k (Nat.lt_of_lt_of_le hk h0)).trans (h.frm.block k hk)⟩,
    fun c hc => c.loc w1 w2 (h.ok c hc) fun x hx => hs.block x (hB x (List.mem_flatMap.2 ⟨c, hc, hx⟩)), h.low, h.apart⟩
theorem Same.mono {B B' : Nat} (h : Same B w w') (hb : B' ≤ B) : Same B' w w' := ⟨h.os, h.tape, h.output, Nat.le_trans hb h.size, fun k hk => h.block k (Nat.lt_of_lt_of_le hk hb)⟩
end
def colls (Ds : List Nat) : List Deferred := Ds.map fun D => { target := .collected D, args := #[] }
theorem y_salloc {P : Program} {σ : Env} {w0 w : World} {cs : List Plot} {ty e : TypeId} {pos : String} {af : Array Edge} {g : Option (Nat × Bool)} {d : Option Tmp} {zv : Value} {size bytes : Nat} [hi : Inf P e zv size bytes] (hS : Sep w0 w cs) :
    ∃ b w', Y P σ ⟨d, .alloc e, ty, pos, af, g⟩ w (ptrAt (pb b) 0) w' ∧ Sep w0 w' (pOwn b zv.cells.toList :: cs) := by
  refine ⟨w.heap.size, w.alloc (.cells zv.cells e), Y.val ?_, hS.push (frm_alloc _ _) (own_alloc _ _ _) (by simp [pOwn])⟩
  simp [execOp, Instr.alloc, Sem.run_bind, run_zeroValue (P := P) (t := e), newVar, newRow]
  rfl
end Go.Sv

/-
  General steps, further.
-/
set_option linter.unusedSimpArgs false
set_option linter.unusedVariables false
set_option linter.unnecessarySimpa false
namespace Go.Sv
open Go Go.RowKit
end Go.Sv

/-
  sievelaw18: EventNests.
-/
set_option linter.unusedSimpArgs false
set_option linter.unusedVariables false
set_option linter.unnecessarySimpa false
namespace Go.Proofs.YthgbpgjpnaanlaaDoor
open Go Go.Sv Go.RowKit

theorem closeM_evs (l : List (List UInt8)) : evs (l.map closeM) = l.map closeE := by simp [evs, closeM, Function.comp_def]
theorem closeM_small {l : List (List UInt8)} (h : ∀ n ∈ l, n.length ≤ 1048576) : ∀ m ∈ l.map closeM, m.e.small := by
  intro m hm
  obtain ⟨n, hn, rfl⟩ := List.mem_map.1 hm
  exact ⟨h n hn, by simp [closeM, closeE], by simp [closeM, closeE], by simp [closeM, closeE]⟩
theorem stack_small (l : List Ev) (h : ∀ e ∈ l, e.name.length ≤ 1048576) : ∀ n ∈ (lkR l).stack, n.length ≤ 1048576 := by
  have key : ∀ (l : List Ev) (k : Lk), (∀ e ∈ l, e.name.length ≤ 1048576) → (∀ n ∈ k.stack, n.length ≤ 1048576) → ∀ n ∈ (l.foldl lkStep k).stack, n.length ≤ 1048576 := by
    intro l
    induction l with
    | nil => intro k _ h; exact h
    | cons e l ih =>
      intro k h1 h2
      rw [List.foldl_cons]
      refine ih _ (fun x hx => h1 x (List.mem_cons_of_mem _ hx)) ?_
      have he := h1 e List.mem_cons_self
      unfold lkStep
      split
      · split
        · split
          · intro n hn
            rcases List.mem_append.1 hn with hn | hn
            · exact h2 n hn
            · rw [List.mem_singleton.1 hn]; exact he
          · split
            · exact h2
            · split
              · split
                · exact fun n hn => h2 n (List.dropLast_subset _ hn)
                · exact h2
              · exact h2
        · exact h2
      · exact h2
  exact key l lk0 h (by simp [lk0])
def depthS (k : Lk) : Nat := if k.err = 0 then k.most else 0
end Go.Proofs.YthgbpgjpnaanlaaDoor

/-
  Package event: copied, Wrap; sievelaw18: spoil.
-/
set_option linter.unusedSimpArgs false
set_option linter.unusedVariables false
set_option linter.unnecessarySimpa false
namespace Go.Sv
open Go Go.RowKit
end Go.Sv
namespace Go.Proofs.YthgbpgjpnaanlaaDoor
open Go Go.Sv Go.RowKit

def spM : EvM := ⟨⟨9, [115, 112, 111, 105, 108, 116], [], []⟩, none, 0⟩
end Go.Proofs.YthgbpgjpnaanlaaDoor

/-
  Package event: Wrap.
-/
set_option linter.unusedSimpArgs false
set_option linter.unusedVariables false
set_option linter.unnecessarySimpa false
namespace Go.Proofs.YthgbpgjpnaanlaaDoor
open Go Go.Sv Go.RowKit

def firstE (n : List UInt8) (es : List At) : Ev := ⟨1, n, [], es⟩
def wrapC (f : Ev) (k : Lk) : Int := if evR f = false then 180 else if k.err ≠ 0 then k.err else if k.stack = [] then 0 else 181
def wrapE (n : List UInt8) (es : List At) (l : List Ev) : List Ev := if wrapC (firstE n es) (lkR l) = 0 then firstE n es :: l ++ [closeE n] else []
end Go.Proofs.YthgbpgjpnaanlaaDoor

/-
  Package event: Trim; sieveref18: Trim.
-/
set_option linter.unusedSimpArgs false
set_option linter.unusedVariables false
set_option linter.unnecessarySimpa false
namespace Go.Sv
open Go Go.RowKit
end Go.Sv
namespace Go.Proofs.YthgbpgjpnaanlaaDoor
open Go Go.Sv Go.RowKit

def opnE (e : Ev) (o : Int) : Int := if e.kind = 1 then o + 1 else if e.kind = 2 then o - 1 else o
def arndE (e : Ev) (o : Int) : Int := if e.kind = 2 then o - 1 else o
/-- does an event stay? -/
def keepE (d o : Int) (e : Ev) : Bool := if e.kind = 0 then decide (arndE e o ≤ d) else decide (arndE e o < d)
def trM (d : Int) (ms : List EvM) : Int × List EvM := ms.foldl (fun s m => (opnE m.e s.1, if keepE d s.1 m.e then s.2 ++ [m] else s.2)) (0, [])
def trI (d : Int) (ms : List EvM) (i : Nat) : Int × List EvM := trM d (ms.take i)
def trimC (d : Int) (k : Lk) : Int := if d < 0 then 1 else k.err
end Go.Proofs.YthgbpgjpnaanlaaDoor

/-
  Package event: Walk.
-/
set_option linter.unusedSimpArgs false
set_option linter.unusedVariables false
set_option linter.unnecessarySimpa false
namespace Go.Proofs.YthgbpgjpnaanlaaDoor
open Go Go.Sv Go.RowKit
def wlkP (b3 b5 : Nat) (q : Option Addr) (cc : Nat) (ns : List EvM) (m : EvM) : PlanB (Option Addr × Nat) where
  pl k d := match k with
    | 2 => [pRow 2 d.x.1 m.e.attrs.length d.x.2 (m.e.attrs.flatMap At.cells)]
    | 3 => [pOwn d.b (m.e.cells d.x.1 d.x.2)]
    | 4 => [pRow 4 d.p (ns.length + 1) d.c (ns.flatMap EvM.cells ++ m.e.cells d.x.1 d.x.2)]
    | 5 => [pOwn b3 [.slice d.p (ns.length + 1) d.c]]
    | _ => []
  con k := match k with
    | 3 => some 4
    | _ => none
  base k := match k with
    | 4 => [pRow 4 q ns.length cc (ns.flatMap EvM.cells)]
    | 5 => [pOwn b3 [.slice q ns.length cc]]
    | _ => []
  fact k a := match k with
    | 0 => (a 0).v = .slice q ns.length cc
    | 1 => (a 1).v = .agg ⟨m.cells⟩
    | 2 => (a 2).v = .agg ⟨m.e.cells (a 2).x.1 (a 2).x.2⟩
    | 3 => (a 3).v = .slice (pb (a 3).b) 1 1 ∧ (a 3).x = (a 2).x
    | 4 => (a 4).v = .slice (a 4).p (ns.length + 1) (a 4).c ∧ (a 4).x = (a 3).x
    | 5 => (a 5).p = (a 4).p ∧ (a 5).c = (a 4).c
    | _ => True
end Go.Proofs.YthgbpgjpnaanlaaDoor

/-
  Package event: words, asToken, Print.
-/
set_option linter.unusedSimpArgs false
set_option linter.unusedVariables false
set_option linter.unnecessarySimpa false
namespace Go.Proofs.YthgbpgjpnaanlaaDoor
open Go Go.Sv Go.RowKit

def wrdV (k : Int) : Value := .agg ⟨[str (ew0 k), str (ew1 k)]⟩
def wrdKV : List (Int × Value) := [(0, wrdV 0), (1, wrdV 1), (2, wrdV 2), (3, wrdV 3)]
theorem wrd_at {k : Int} (hk : k = 0 ∨ k = 1 ∨ k = 2 ∨ k = 3) : wrdKV.lookup k = some (wrdV k) := by
  rcases hk with rfl | rfl | rfl | rfl <;> rfl
theorem y_wrd {P : Program} {σ : Env} {w : World} {m : Nat} {d : Option Tmp} {ty t kt vt : TypeId} {pos : String} {af : Array Edge} {g : Option (Nat × Bool)} {x y : Operand} {zv : Value} {size bytes : Nat} [hu : Und P t (.map kt vt)] [hkt : Und P kt (.int .i64)] [hi : Inf P vt zv size bytes] {k : Int} (hk : k = 0 ∨ k = 1 ∨ k = 2 ∨ k = 3) (hm : IMap w m wrdKV) (hx : evl σ x = .map (some m)) (hy : evl σ y = int k) :
    Y P σ ⟨d, .lookup t x y false, ty, pos, af, g⟩ w (wrdV k) w := by
  have h : Y P σ ⟨d, .lookup t x y false, ty, pos, af, g⟩ w ((wrdKV.lookup k).getD zv) w := y_ilookup hx hy hm
  rw [wrd_at hk] at h
  exact h
set_option maxHeartbeats 1000000 in
theorem words18_ok (w0 w : World) (cs : List Plot) (hS : Sep w0 w cs) :
    CallsR Tryd.prog 72 #[] w fun v w' => ∃ m, v = .map (some m) ∧ Frm w w' ∧ Sep w0 w' (pIMap m wrdKV :: cs) := by
  refine enter (l := []) Tryd.func72 rfl Tryd.ntmps72 (by kernel_rfl) rfl ?_
  refine sgo ?_
  refine wlimap fun m w1 hm hI hf => ?_
  have hm1 := hI.lt
  refine wl ?_ (y_arr (zs := [str [], str []]) (zv := str []) [str (ew0 0), str (ew1 0)] rfl rfl rfl (by simp [Value.cells]))
  refine wliins (s := 0) (v := wrdV 0) hI rfl fun w2 hI hl => ?_
  replace hf := hf.step hl (by simpa using hm)
  refine wl ?_ (y_arr (zs := [str [], str []]) (zv := str []) [str (ew0 1), str (ew1 1)] rfl rfl rfl (by simp [Value.cells]))
  refine wliins (s := 1) (v := wrdV 1) hI rfl fun w3 hI hl => ?_
  replace hf := hf.step hl (by simpa using hm)
  refine wl ?_ (y_arr (zs := [str [], str []]) (zv := str []) [str (ew0 2), str (ew1 2)] rfl rfl rfl (by simp [Value.cells]))
  refine wliins (s := 2) (v := wrdV 2) hI rfl fun w4 hI hl => ?_
  replace hf := hf.step hl (by simpa using hm)
  refine wl ?_ (y_arr (zs := [str [], str []]) (zv := str []) [str (ew0 3), str (ew1 3)] rfl rfl rfl (by simp [Value.cells]))
  refine wliins (s := 3) (v := wrdV 3) hI rfl fun w5 hI hl => ?_
  replace hf := hf.step hl (by simpa using hm)
  refine sgo ?_
  (first | refine fp1 (.inl rfl) rfl rfl ?_ | refine fp2 (.inl rfl) rfl rfl rfl ?_ | refine fp3 (.inl rfl) rfl rfl rfl rfl ?_ | refine fp0 (.inr rfl) rfl ?_ | refine fp0 (.inl rfl) rfl ?_ | refine fp1 (.inr rfl) rfl rfl ?_)
  exact ⟨m, rfl, hf, hS.push hf (c := pIMap m wrdKV) hI (by intro x hx; simp [pIMap] at hx; omega)⟩
def tokP (e : Ev) (p : Option Addr) : Option Addr := if e.kind = 0 ∨ e.kind = 2 then none else p
def tokC (e : Ev) (c : Nat) : Nat := if e.kind = 0 ∨ e.kind = 2 then 0 else c
theorem evTok_small {e : Ev} (h : e.small) : (evTok e).small := by
  unfold evTok
  split
  · exact ⟨by simp, h.text, by simp, by simp⟩
  split
  · exact Ev.close_small h
  · exact Ev.start_small h
theorem evTok_im {w : World} {e : Ev} {p : Option Addr} (h : Im [] w p (e.attrs.flatMap At.cells)) : Im [] w (tokP e p) ((evTok e).attrs.flatMap At.cells) := by
  unfold tokP evTok
  by_cases h0 : e.kind = 0
  · rw [if_pos (.inl h0), if_pos h0]; exact Im.nil _ _ _
  · rw [if_neg h0]
    by_cases h2 : e.kind = 2
    · rw [if_pos (.inr h2), if_pos h2]; exact Im.nil _ _ _
    · rw [if_neg (by omega), if_neg h2]; exact h
set_option maxHeartbeats 1000000 in
theorem asToken_ok (e : Ev) (p : Option Addr) (c : Nat) (w : World) :
    PureC Tryd.prog 71 #[.agg ⟨e.cells p c⟩] w (.agg ⟨(evTok e).cells (tokP e p) (tokC e c)⟩) := by
  obtain ⟨k, nm, tx, es⟩ := e
  refine enter (l := [.agg ⟨Ev.cells ⟨k, nm, tx, es⟩ p c⟩]) Tryd.func71 rfl Tryd.ntmps71 (by kernel_rfl) rfl ?_
  have hS := Sep.start w
  refine sgo ?_
  refine sbox (v := .agg ⟨Ev.cells ⟨k, nm, tx, es⟩ p c⟩) hS fun b w1 hS => ?_
  refine sgo ?_
  refine salloc hS fun b2 w2 hS => ?_
  replace hS : Sep w w2 [pOwn b2 [int 0, str [], str [], .slice none 0 0, .bool false, int 0, int 0, int 0], pOwn b [int k, str nm, str tx, .slice p es.length c]] := hS
  refine sgo ?_
  (show WC _ _ _ _ _ _ _; first | refine WC_dec rfl (fun hc => ?_) (fun hc => ?_) | refine WC_cond rfl (fun hc => ?_) (fun hc => ?_))
  · replace hc : k = 0 := hc
    subst hc
    refine sgo ?_
    refine wlbuild ?_
    refine ssta (vs := [int 0, str [], str tx, .slice none 0 0, .bool false, int 0, int 0, int 0]) hS 0 fun w3 hS => ?_
    refine sgo ?_
    refine fpc (l := [int 0, str [], str tx, .slice none 0 0, .bool false, int 0, int 0, int 0]) (.inl rfl) rfl rfl rfl (hS.own 0 rfl) ⟨?_, hS.frm⟩
    rfl
  · replace hc : ¬ k = 0 := hc
    have hk0 := hc
    clear hc
    refine sgo ?_
    (show WC _ _ _ _ _ _ _; first | refine WC_dec rfl (fun hc => ?_) (fun hc => ?_) | refine WC_cond rfl (fun hc => ?_) (fun hc => ?_))
    · replace hc : k = 2 := hc
      subst hc
      refine sgo ?_
      refine wlbuild ?_
      refine ssta (vs := [int 2, str nm, str [], .slice none 0 0, .bool false, int 0, int 0, int 0]) hS 0 fun w3 hS => ?_
      refine sgo ?_
      refine fpc (l := [int 2, str nm, str [], .slice none 0 0, .bool false, int 0, int 0, int 0]) (.inl rfl) rfl rfl rfl (hS.own 0 rfl) ⟨?_, hS.frm⟩
      rfl
    · replace hc : ¬ k = 2 := hc
      refine sgo ?_
      refine wlbuild ?_
      refine ssta (vs := [int 1, str nm, str [], .slice p es.length c, .bool false, int 0, int 0, int 0]) hS 0 fun w3 hS => ?_
      refine sgo ?_
      refine fpc (l := [int 1, str nm, str [], .slice p es.length c, .bool false, int 0, int 0, int 0]) (.inl rfl) rfl rfl rfl (hS.own 0 rfl) ⟨?_, hS.frm⟩
      unfold evTok tokP tokC
      dsimp only
      rw [if_neg hk0, if_neg hc, if_neg (by omega), if_neg (by omega)]
      rfl
/-! ## Print -/
theorem trimPre_ok (s p : List UInt8) (w : World) : PureC Tryd.prog 73 #[str s, str p] w (str (Lib.trimPrefix s p)) := by
  refine Calls.mono (Tryd.strings_TrimPrefix ⟨s.toArray⟩ ⟨p.toArray⟩ w) ?_
  rintro e w' ⟨rfl, rfl⟩
  exact ⟨_, rfl, rfl, Frm.refl _⟩
theorem evLine_trim {e : Ev} (h : evR e = true) : ew0 e.kind ++ Lib.trimPrefix (lineR (evTok e)) (ew1 e.kind) = evLine e := by
  obtain ⟨X, h1, h2⟩ := evLine_eq h
  unfold evLine
  congr 1
  unfold Lib.trimPrefix Lib.hasPrefix
  rw [if_pos]
  rw [h2, List.isPrefixOf_iff_prefix]
  exact List.prefix_append _ _
theorem evLine_len {e : Ev} (h : evR e = true) : (evLn e).length ≤ 5 * e.wt := by
  have ha : ∀ es : List At, (es.flatMap atLine).length ≤ 2 * (es.map At.wt).sum := by
    intro es
    induction es with
    | nil => simp
    | cons x es ih =>
      rw [List.flatMap_cons, List.length_append, List.map_cons, List.sum_cons]
      have h1 := quoteR_len x.n
      have h2 := quoteR_len x.v
      have h3 : (atLine x).length = (quoteR x.n).length + (quoteR x.v).length + 2 := by unfold atLine; simp; omega
      have h4 : At.wt x = x.n.length + x.v.length + 3 := rfl
      omega
  have hg : ∀ t : Tok, (lineR t).length ≤ 7 + (2 * t.name.length + 3) + (2 * t.text.length + 3) + (t.attrs.flatMap atLine).length + 2 := by
    intro t
    have hw := wordR_len t.kind
    have hq := quoteR_len t.name
    have hq2 := quoteR_len t.text
    have h1 : (if t.kind = 1 ∨ t.kind = 2 then 32 :: quoteR t.name else if t.kind = 0 ∨ t.kind = 3 then 32 :: quoteR t.text else []).length ≤ (2 * t.name.length + 3) + (2 * t.text.length + 3) := by
      split
      · rw [List.length_cons]; omega
      split
      · rw [List.length_cons]; omega
      · rw [List.length_nil]; omega
    have h2 : (if t.self = true then [32, 47] else ([] : List UInt8)).length ≤ 2 := by split <;> simp
    unfold lineR headR
    simp only [List.length_append]
    omega
  have h0 := hg (evTok e)
  have hn : (evTok e).name.length ≤ e.name.length := by
    unfold evTok; split
    · exact Nat.zero_le _
    split
    · exact Nat.le_refl _
    · exact Nat.le_refl _
  have ht : (evTok e).text.length ≤ e.text.length := by
    unfold evTok; split
    · exact Nat.le_refl _
    split
    · exact Nat.zero_le _
    · exact Nat.zero_le _
  have hat : ((evTok e).attrs.flatMap atLine).length ≤ 2 * (e.attrs.map At.wt).sum := by
    unfold evTok; split
    · exact Nat.zero_le _
    split
    · exact Nat.zero_le _
    · exact ha e.attrs
  have h5 : (ew0 e.kind).length ≤ 5 := by
    unfold ew0
    repeat' split
    all_goals decide
  have h6 : (ew1 e.kind).length ≥ 3 := by
    unfold ew1
    repeat' split
    all_goals decide
  obtain ⟨X, h7, h8⟩ := evLine_eq h
  have h9 := congrArg List.length h8
  simp only [List.length_append, List.length_cons] at h9
  unfold evLn Ev.wt
  rw [h7]
  simp only [List.length_append, List.length_cons, List.length_nil]
  omega
theorem evLns_snoc {l : List Ev} {i : Nat} {e : Ev} (h : l[i]? = some e) : evLns (l.take (i + 1)) = evLns (l.take i) ++ evLn e := by
  unfold evLns
  rw [List.take_add_one, h, List.flatMap_append]; simp
theorem evLns_len : ∀ l : List Ev, (∀ e ∈ l, evR e = true) → (evLns l).length ≤ 5 * (l.map Ev.wt).sum
  | [], _ => by simp [evLns]
  | e :: l, h => by
    have ih := evLns_len l fun x hx => h x (List.mem_cons_of_mem _ hx)
    have h1 := evLine_len (h e (by simp))
    have e1 : evLns (e :: l) = evLn e ++ evLns l := by unfold evLns; rw [List.flatMap_cons]
    rw [e1, List.length_append, List.map_cons, List.sum_cons]
    omega
theorem evLns_take {ms : List EvM} {i : Nat} (h : ∀ e ∈ (evs ms).take i, evR e = true) : (evLns ((evs ms).take i)).length ≤ 5 * evw ms := by
  have h1 := evLns_len _ h
  have h2 := sum_take Ev.wt (evs ms) i
  have h3 : ((evs ms).map Ev.wt).sum = evw ms := by simp [evs, evw, Function.comp_def]
  omega
def prP (b6 : Nat) (k : Int) : PlanB Unit where
  pl k2 d := match k2 with
    | 0 => [pIMap d.b wrdKV]
    | 4 => [pOwn d.b [str [], str []]]
    | 5 => [pOwn d.b [str (ew0 k), str (ew1 k)]]
    | _ => []
  con k2 := match k2 with
    | 0 => some 3
    | 4 => some 5
    | _ => none
  base k2 := match k2 with
    | _ => []
  fact k2 a := match k2 with
    | 0 => (a 0).v = .map (some (a 0).b)
    | 1 => (a 1).v = ptrAt (pb b6) 0
    | 2 => (a 2).v = int k
    | 3 => (a 3).v = wrdV k
    | 4 => (a 4).v = ptrAt (pb (a 4).b) 0
    | 5 => (a 5).b = (a 4).b
    | _ => True
set_option maxHeartbeats 4000000 in
theorem evPrint_ok (ms : List EvM) (p : Option Addr) (c : Nat) (hw : evw ms ≤ 2097152) (hs : ∀ m ∈ ms, m.e.small) (w : World) (hA : Asc w) (hE : Evs w p ms) :
    PureC Tryd.prog 41 #[.slice p ms.length c] w (if (evs ms).all evR = true then .tuple #[str (evLns (evs ms)), int 0] else .tuple #[str [], int 180]) := by
  have hn : ms.length ≤ 2097152 := by
    have := sum_len (fun m : EvM => m.e.wt) ms (by intro m _; show 1 ≤ Ev.wt m.e; unfold Ev.wt; omega)
    unfold evw at hw; omega
  have hS := Sep.start w
  obtain ⟨R, hR⟩ : ∃ R, (evs ms).all evR = R := ⟨_, rfl⟩
  rw [hR]
  refine enter (l := [.slice p ms.length c]) Tryd.func41 rfl Tryd.ntmps41 (by kernel_rfl) rfl ?_
  refine sgo ?_
  refine wlallocT fun b w1 hbw ha hf => ?_
  replace hS : Sep w w1 [pBld TB TY b none []] := hS.push hf (Bld.new ha) (by intro x hx; simp [pBld, rb] at hx; omega)
  refine sgo ?_
  refine wcloop (X := Nat × Option Addr) (fun x => [(4, ptrAt (pb b) 0), (11, .slice p ms.length c), (12, int ms.length), (13, int x.1)])
    (fun x wr => x.1 ≤ ms.length ∧ (∀ e ∈ (evs ms).take x.1, evR e = true) ∧ Sep w wr [pBld TB TY b x.2 (evLns ((evs ms).take x.1))]) (fun x => ms.length - x.1) (0, none) ⟨rfl, rfl, rfl, rfl, trivial⟩ ⟨Nat.zero_le _, by simp, hS⟩ ?_
  clear hS ha hf
  rintro ⟨i, q⟩ wr ρ ⟨hil, hall, hS⟩
  dsimp only at hil hall hS ⊢
  refine sgo ?_
  (show WC _ _ _ _ _ _ _; first | refine WC_dec rfl (fun hc => ?_) (fun hc => ?_) | refine WC_cond rfl (fun hc => ?_) (fun hc => ?_))
  · have hlt : i < ms.length := by omega
    clear hc
    have hSg := (hE.frm hS.frm).im.sg
    have hx : ms[i]? = some ms[i] := List.getElem?_eq_getElem hlt
    have hmem : ms[i] ∈ ms := List.getElem_mem hlt
    have hseg := fm_seg EvM.len ms hx
    have hfl := fm_len EvM.len ms
    have hps : ∃ q, p = some q := hSg.some (by omega)
    have hat := hE.each _ hmem
    have hsm := hs _ hmem
    have hsn := evLns_snoc (evs_at hx)
    have hex := evs_at hx
    have hnext : evR ms[i].e = true → ∀ e ∈ (evs ms).take (i + 1), evR e = true := fun h e he => by
      rw [List.take_add_one, hex] at he
      rcases List.mem_append.1 he with he | he
      · exact hall e he
      · have : e = ms[i].e := by simpa using he
        rw [this]; exact h
    have hbad : evR ms[i].e = false → R = false := fun h => by
      rw [← hR, List.all_eq_false]
      exact ⟨ms[i].e, List.mem_of_getElem? hex, by simp [h]⟩
    have hln : evR ms[i].e = true → (evLns ((evs ms).take i)).length + (evLn ms[i].e).length ≤ 5 * evw ms := fun h => by
      have := evLns_take (hnext h)
      rw [hsn, List.length_append] at this
      exact this
    have hkind : evR ms[i].e = true → ms[i].e.kind = 0 ∨ ms[i].e.kind = 1 ∨ ms[i].e.kind = 2 ∨ ms[i].e.kind = 3 := evR_kind
    have htrim : evR ms[i].e = true → _ := evLine_trim (e := ms[i].e)
    have hmay : evR ms[i].e = true → _ := evTok_may (e := ms[i].e)
    generalize ms[i] = m at *
    generalize hacc : evLns ((evs ms).take i) = acc at *
    obtain ⟨e0, mp, mc⟩ := m
    have htok := fun w' h => print_ok (evTok e0) (tokP e0 mp) (tokC e0 mc) (evTok_small hsm) w' h
    have hasT := fun w' => asToken_ok e0 mp mc w'
    have hchk := fun w' h1 h2 => evCheck_ok e0 mp mc hsm w' h1 h2
    dsimp only at hln hkind htrim hmay hbad hnext hsn hat
    generalize hT : evTok e0 = T at *
    have hag : (EvM.mk e0 mp mc).cells = e0.cells mp mc := rfl
    obtain ⟨k, nm, tx, es⟩ := e0
    have htp : Im [] w (tokP ⟨k, nm, tx, es⟩ mp) (T.attrs.flatMap At.cells) := hT ▸ evTok_im hat
    generalize tokP ⟨k, nm, tx, es⟩ mp = tp at *
    generalize tokC ⟨k, nm, tx, es⟩ mc = tc at *
    refine sgo ?_
    rw [hseg]
    refine salloc hS fun b6 w5 hS => ?_
    refine sgo ?_
    refine ssta (vs := [int k, str nm, str tx, .slice mp es.length mc]) hS 0 fun w6 hS => ?_
    replace hS : Sep w w6 [pOwn b6 [int k, str nm, str tx, .slice mp es.length mc], pBld TB TY b q acc] := hS
    refine sgo ?_
    refine wlpure (hchk w6 (hA.frm hS.frm) (hat.sep hS)) fun w7 hf7 => ?_
    replace hS := hS.grow hf7
    cases he : evR ⟨k, nm, tx, es⟩ with
    | false =>
      have hRf := hbad he
      subst hRf
      simp only [Bool.false_eq_true, if_false]
      refine sgo ?_
      (first | refine fp1 (.inl rfl) rfl rfl ?_ | refine fp2 (.inl rfl) rfl rfl rfl ?_ | refine fp3 (.inl rfl) rfl rfl rfl rfl ?_ | refine fp0 (.inr rfl) rfl ?_ | refine fp0 (.inl rfl) rfl ?_ | refine fp1 (.inr rfl) rfl rfl ?_); refine ⟨?_, by (first | exact Frm.refl _ | assumption | exact Go.Sv.Sep.frm (by assumption) | (refine Frm.trans ?_ (by assumption); first | exact Frm.refl _ | assumption))⟩; (try simp only [realB, rv_true, Nat.reduceBEq, cond_true, cond_false, entG, real_lif, updGL])
    | true =>
      have hk4 := hkind he
      have htr := htrim he
      have hma := hmay he
      have hl4 := hln he
      have hall' := hnext he
      clear hkind htrim hmay hln hnext hbad hchk
      simp only [if_true]
      refine sgo ?_
      refine wlpure (hasT _) fun w8 hf8 => ?_
      replace hS := hS.grow hf8
      refine wlpure (htok _ (htp.sep hS)) fun w9 hf9 => ?_
      replace hS := hS.grow hf9
      rw [if_pos hma]
      generalize hLn : lineR T = LN at *
      refine sgo ?_
      dsimp only at hk4 htr
      refine wcplanb (b := []) (prP b6 k) ⟨.nilIface, none, 0, 0, ()⟩ hS rfl (fun j oj a a' hj he hd h => ?_) ⟨?_, ?_, ?_, ?_, ?_, ?_, trivial⟩ ?_
      · have hjl : j < 6 := (List.getElem?_eq_some_iff.1 hj).1
        match j, hjl with
        | 0, _ | 1, _ | 2, _ | 3, _ | 4, _ => first | (simp only [prP] at h ⊢; rw [← he]; exact h) | exact h
        | 5, _ => simp only [prP] at h ⊢; rw [← he, ← hd 4 (by cases hj; rfl)]; exact h
      · intro a σ' w' rest hσ hdep hS'   -- 0: call; pieces:  ..
        refine rule_call (vals := []) (words18_ok w w' _ hS') (fun v w2 hR => ?_) rfl
        obtain ⟨m, rfl, -, hS2⟩ := hR
        exact ⟨⟨.map (some m), none, 0, m, ()⟩, rfl, rfl, hS2⟩
      · intro a σ' w' rest hσ hdep hS'   -- 1: fieldAddr; pieces:  ..
        have e6 : σ' 6 = ptrAt (pb b6) 0 := (hσ 6 (notDstB rfl)).trans rfl
        exact rule_y (y_field e6 ⟨_, rfl⟩ (by decide)) ⟨⟨ptrAt (pb b6) 0, none, 0, 0, ()⟩, rfl, rfl, hS'⟩
      · intro a σ' w' rest hσ hdep hS'   -- 2: load; pieces:  ..
        have f1 := (hdep 1 _ rfl rfl).2
        have e29 := ((hdep 1 _ rfl rfl).1 29 rfl).trans f1
        exact rule_y (y_load e29 (Sep.sgv hS' 0 rfl) rfl) ⟨⟨int k, none, 0, 0, ()⟩, rfl, rfl, hS'⟩
      · intro a σ' w' rest hσ hdep hS'   -- 3: lookup; pieces: takes 0 ..
        have f0 := (hdep 0 _ rfl rfl).2
        have e28 := ((hdep 0 _ rfl rfl).1 28 rfl).trans f0
        have f2 := (hdep 2 _ rfl rfl).2
        have e30 := ((hdep 2 _ rfl rfl).1 30 rfl).trans f2
        exact rule_y (y_wrd hk4 (Sep.at (c := pIMap (a 0).b wrdKV) hS' 0 rfl) e28 e30) ⟨⟨wrdV k, none, 0, 0, ()⟩, rfl, rfl, hS'.tail⟩
      · intro a σ' w' rest hσ hdep hS'   -- 4: alloc; pieces:  ..
        obtain ⟨b, w2, hy, hS2⟩ := y_salloc (P := Tryd.prog) (e := 113) (d := some 10) hS'
        exact rule_y hy ⟨⟨ptrAt (pb b) 0, none, 0, b, ()⟩, rfl, rfl, hS2⟩
      · intro a σ' w' rest hσ hdep hS'   -- 5: store; pieces: takes 4 ..
        have f4 := (hdep 4 _ rfl rfl).2
        have e10 := ((hdep 4 _ rfl rfl).1 10 rfl).trans f4
        have f3 := (hdep 3 _ rfl rfl).2
        have e31 := ((hdep 3 _ rfl rfl).1 31 rfl).trans f3
        obtain ⟨w2, hy, hS2⟩ := y_sst (P := Tryd.prog) (t := 113) (x := .tmp 10) (y := .tmp 31) hS' 0 rfl e10 e31 rfl (Nat.le_of_ble_eq_true rfl) (by simp [Go.Value.cells, Go.Value.oneCell', wrdV])
        exact rule_y hy ⟨⟨undef, none, 0, (a 4).b, ()⟩, rfl, rfl, hS2⟩
      · intro a σ' w' hσ hA' hS'
        have h4 := hA' 4 _ rfl
        have h5 := hA' 5 _ rfl
        have e10 := (h4.1 10 rfl).trans h4.2
        rw [frameOf (σ := σ') [(4, ptrAt (pb b) 0), (8, str LN), (10, ptrAt (pb (a 4).b) 0), (11, .slice p ms.length c), (12, int ms.length), (13, int i)]
          ⟨(hσ 4 (notDst rfl)).trans rfl, (hσ 8 (notDst rfl)).trans rfl, e10, (hσ 11 (notDst rfl)).trans rfl, (hσ 12 (notDst rfl)).trans rfl, (hσ 13 (notDst rfl)).trans rfl, trivial⟩]
        replace hS : Sep w w' [pOwn (a 5).b [str (ew0 k), str (ew1 k)], pOwn b6 [int k, str nm, str tx, .slice mp es.length mc], pBld TB TY b q acc] := hS'
        rw [h5.2] at hS
        generalize (a 4).b = b10 at *
        clear hA' h4 h5 e10 hS' hσ hsn hex
        have hxl : (ew0 k).length ≤ 5 := by
          unfold ew0
          repeat' split
          all_goals decide
        have hll : (evLine ⟨k, nm, tx, es⟩).length ≤ 10485760 := by
          unfold evLn at hl4
          simp at hl4
          omega
        have htl2 : (ew0 k).length + (Lib.trimPrefix LN (ew1 k)).length = (evLine ⟨k, nm, tx, es⟩).length := by rw [← htr, List.length_append]
        have hsn' := evLns_snoc (evs_at hx)
        refine thn_normal ?_
        refine sgo ?_
        refine wcdrawt 8 ?_
        refine qgo ?_
        refine qlcallp (fun w _ => trimPre_ok LN (ew1 k) w) ?_
        refine qgo ?_
        refine QL_nil ?_
        intro w11 hf11
        replace hS := hS.grow hf11
        have hw3 : ew0 k ++ Lib.trimPrefix LN (ew1 k) ++ [10] = evLn ⟨k, nm, tx, es⟩ := by rw [htr]; rfl
        rw [hw3]
        refine wlcall (writeString_ok b q acc (evLn ⟨k, nm, tx, es⟩) _ (hS.bld 2 rfl) (by omega)) ?_
        rintro _ w12 ⟨rfl, q', hB, hl⟩
        replace hS := hS.toBld 2 rfl hl hB
        rw [hacc] at hsn'
        refine sgo ?_
        refine ⟨(i + 1, q'), ⟨rfl, rfl, rfl, rfl, trivial⟩, ⟨hlt, hall', ?_⟩, (by (try dsimp only); omega)⟩
        dsimp only
        rw [hsn']
        exact (hS.drop 1 rfl).drop 0 rfl
  · obtain rfl : i = ms.length := by omega
    rw [← evs_len, List.take_length] at hS hall
    have hRt : R = true := by rw [← hR, List.all_eq_true]; exact hall
    rw [hRt]
    simp only [if_true]
    refine sgo ?_
    refine wlcall (string_ok w.heap.size b q _ _ (hS.bld 0 rfl) (fun x hx => hS.low _ List.mem_cons_self x hx) hS.frm.size) ?_
    rintro _ w6 ⟨rfl, hf6⟩
    have hfr6 : Frm w w6 := Below.trans hS.frm hf6
    refine sgo ?_
    (first | refine fp1 (.inl rfl) rfl rfl ?_ | refine fp2 (.inl rfl) rfl rfl rfl ?_ | refine fp3 (.inl rfl) rfl rfl rfl rfl ?_ | refine fp0 (.inr rfl) rfl ?_ | refine fp0 (.inl rfl) rfl ?_ | refine fp1 (.inr rfl) rfl rfl ?_); refine ⟨?_, by (first | exact Frm.refl _ | assumption | exact Go.Sv.Sep.frm (by assumption) | (refine Frm.trans ?_ (by assumption); first | exact Frm.refl _ | assumption))⟩; (try simp only [realB, rv_true, Nat.reduceBEq, cond_true, cond_false, entG, real_lif, updGL])
end Go.Proofs.YthgbpgjpnaanlaaDoor

/-
  Lines of tokens, read as the document does: plain laws.
-/
set_option linter.unusedSimpArgs false
set_option linter.unusedVariables false
set_option linter.unnecessarySimpa false
namespace Go.Proofs.YthgbpgjpnaanlaaDoor
open Go Go.Sv Go.RowKit

theorem head_no {k : Nat} (hk : k ≠ 4) {s : List UInt8} (h : ¬ s.take 1 = [32]) : headT k s = none := by unfold headT; rw [if_neg hk, if_neg h]
theorem head_bad {k : Nat} (hk : k ≠ 4) {s : List UInt8} (h : s.take 1 = [32]) (h2 : qtxR (s.drop 1) = none) : headT k s = none := by unfold headT; rw [if_neg hk, if_pos h, h2]
theorem head_yes {k : Nat} (hk : k ≠ 4) {s x r : List UInt8} (h : s.take 1 = [32]) (h2 : qtxR (s.drop 1) = some (x, r)) : headT k s = some (if k = 1 ∨ k = 2 then (x, [], r) else ([], x, r)) := by
  unfold headT; rw [if_neg hk, if_pos h, h2]
  dsimp only
  split <;> rfl
theorem tok_none {k : Nat} {s : List UInt8} (h : headT k s = none) : tokR k s = none := by unfold tokR; rw [h]
/-- of the words just one can stand at the front -/
theorem read_at : ∀ (k : Nat) (x s : List UInt8), wordsL[k]? = some x → x.isPrefixOf s = true → readR s = tokR k (s.drop x.length) := by
  intro k x s hx hp
  obtain ⟨t, rfl⟩ := List.isPrefixOf_iff_prefix.1 hp
  have hk : k < 5 := (List.getElem?_eq_some_iff.1 hx).1
  match k, hk with
  | 0, _ => obtain rfl : wText = x := Option.some.inj hx; rfl
  | 1, _ => obtain rfl : wStart = x := Option.some.inj hx; rfl
  | 2, _ => obtain rfl : wEnd = x := Option.some.inj hx; rfl
  | 3, _ => obtain rfl : wComment = x := Option.some.inj hx; rfl
  | 4, _ => obtain rfl : wDoctype = x := Option.some.inj hx; rfl
end Go.Proofs.YthgbpgjpnaanlaaDoor

