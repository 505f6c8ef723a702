/-
  Our texts SvTr, SvTs, SvTpP, SvPost, SvOpen, SvOpn07, joined.
-/
import Derived.Test.YtfomfplddncakaaMg4
import Derived.ChangeSame
import Derived.Test.YtfomfplddncakaaRows
import Derived.WalkKit
import Derived.ProofKit
import Derived.OpenShut
import Derived.JoinedCond
import Derived.Deep.Slices
import Derived.WideKeyArgs
/-
  sieveref07.Merge.
-/
set_option linter.unusedSimpArgs false
set_option linter.unusedVariables false
set_option linter.unnecessarySimpa false
namespace Go.Proofs.Ytfomfplddncakaa
open Go Go.Sv Go.RowKit
theorem accM_len (ts : List Tok) : (accM ts).length ≤ ts.length := by
  have h1 := accP_filter ts
  have h2 := accP_len ts
  have := List.length_filter_le keepT (accP ts)
  rw [h1] at this
  omega
/-- a list of tokens whose records are one's own; their attributes may lie elsewhere -/
structure TW (w : World) (lo : Nat) (q : Option Addr) (cc : Nat) (ms : List TokM) : Prop where
  row : Row w 8 q ms.length cc (ms.flatMap TokM.cells)
  low : ∀ x ∈ rb q, lo ≤ x
  each : ∀ m ∈ ms, AtR w lo m
theorem TW.toks {w : World} {lo : Nat} {q : Option Addr} {cc : Nat} {ms : List TokM} (h : TW w lo q cc ms) : Toks w q ms := ⟨h.row.im (by simp), fun m hm => (h.each m hm).im⟩
theorem TW.frm {w w' : World} {lo : Nat} {q : Option Addr} {cc : Nat} {ms : List TokM} (h : TW w lo q cc ms) (hf : Frm w w') : TW w' lo q cc ms := ⟨h.row.frm hf, h.low, fun m hm => (h.each m hm).frm hf⟩
theorem TW.le {w w' : World} {lo : Nat} {q : Option Addr} {cc : Nat} {ms : List TokM} {M : List Nat} (h : TW w lo q cc ms) (hl : Le M w w') (hM : ∀ x ∈ tbl q ms, x ∉ M) : TW w' lo q cc ms :=
  ⟨h.row.le hl fun x hx => hM x (List.mem_append_left _ hx), h.low,
   fun m hm => ⟨(h.each m hm).1.le hl fun x hx => hM x (List.mem_append_right _ (List.mem_flatMap.2 ⟨m, hm, hx⟩)), (h.each m hm).2⟩⟩
end Go.Proofs.Ytfomfplddncakaa

/-
  sievelaw07: TokenMerges.
-/
set_option linter.unusedSimpArgs false
set_option linter.unusedVariables false
set_option linter.unnecessarySimpa false
namespace Go.Proofs.Ytfomfplddncakaa
open Go Go.Sv Go.RowKit
theorem accP_like (ts : List Tok) : ∀ x ∈ accP ts, likeT ts x := by
  have key : ∀ (us acc : List Tok), (∀ t ∈ us, t ∈ ts) → (∀ x ∈ acc, likeT ts x) → ∀ x ∈ us.foldl stepP acc, likeT ts x := by
    intro us
    induction us with
    | nil => intro acc _ h; exact h
    | cons t us ih =>
      intro acc h1 h2
      exact ih _ (fun u hu => h1 u (List.mem_cons_of_mem _ hu)) (stepP_like h2 (h1 t List.mem_cons_self))
  exact key ts [] (fun _ h => h) (by simp)
theorem accP_txs (ts : List Tok) : txs (accP ts) ≤ txs ts := by
  have key : ∀ (us acc : List Tok), txs (us.foldl stepP acc) ≤ txs acc + txs us := by
    intro us
    induction us with
    | nil => intro acc; simp
    | cons t us ih =>
      intro acc
      have h1 := stepP_txs acc t
      have h2 := ih (stepP acc t)
      rw [txs_cons]
      simp only [List.foldl_cons]
      omega
  have := key ts []
  simpa [accP, txs] using this
theorem merge_small {ts : List Tok} (hs : ∀ t ∈ ts, t.small) (ht : txs ts ≤ 1048576) : ∀ x ∈ mergeR ts, x.small := by
  intro x hx
  have h1 : x ∈ accM ts := List.mem_reverse.1 hx
  rw [← accP_filter] at h1
  exact small_txs hs (accP_like ts) (Nat.le_trans (accP_txs ts) ht) x (List.mem_filter.1 h1).1
theorem merge_len (ts : List Tok) : (mergeR ts).length ≤ ts.length := by rw [mergeR, List.length_reverse]; exact accM_len ts
theorem mem_t {ns : List TokM} {ts : List Tok} (h : ns.map TokM.t = ts) (P : Tok → Prop) (hp : ∀ t ∈ ts, P t) : ∀ m ∈ ns, P m.t := fun m hm => hp _ (by rw [← h]; exact List.mem_map_of_mem hm)
theorem len_t {ns : List TokM} {ts : List Tok} (h : ns.map TokM.t = ts) : ns.length = ts.length := by rw [← h, List.length_map]

end Go.Proofs.Ytfomfplddncakaa

/-
  The law TokenBack.
-/
set_option linter.unusedSimpArgs false
set_option linter.unusedVariables false
set_option linter.unnecessarySimpa false
namespace Go.Proofs.Ytfomfplddncakaa
open Go Go.Sv Go.RowKit

theorem lineS_of_line {t : Tok} (hm : mayR t = true) (hs : t.small) : lineS (lineR t) := by
  intro k x nm tx r0 es r hx hp hh ha
  have h1 := read_line hm
  rw [read_at k x _ hx hp, tok_end hh ha] at h1
  split at h1
  · have h2 := Option.some.inj h1
    unfold zeroT at h2
    injection h2 with e1 e2 e3 e4
    subst e2 e3 e4
    exact ⟨hs.name, hs.text, hs.attrs, hs.each⟩
  · cases h1
def mays (ms : List TokM) : List TokM := ms.filter fun m => mayR m.t
theorem mays_succ {ms : List TokM} {i : Nat} {m : TokM} (hx : ms[i]? = some m) : mays (ms.take (i + 1)) = mays (ms.take i) ++ (if mayR m.t = true then [m] else []) := by
  unfold mays
  rw [List.take_add_one, hx, List.filter_append]
  congr 1
  rw [Option.toList, List.filter_cons]
  split <;> rfl
theorem mays_may {ms : List TokM} : ∀ m ∈ mays ms, mayR m.t = true := fun m hm => (List.mem_filter.1 hm).2
theorem mays_mem {ms : List TokM} : ∀ m ∈ mays ms, m ∈ ms := fun m hm => (List.mem_filter.1 hm).1
theorem mays_len (ms : List TokM) : (mays ms).length ≤ ms.length := List.length_filter_le _ _
theorem mays_wts : ∀ ms : List TokM, wts (mays ms) ≤ wts ms
  | [] => Nat.le_refl _
  | m :: ms => by
    have ih := mays_wts ms
    have e : wts (m :: ms) = m.t.wt + wts ms := by simp [wts]
    unfold mays at ih ⊢
    rw [List.filter_cons]
    split
    · have e2 : wts (m :: ms.filter fun m => mayR m.t) = m.t.wt + wts (ms.filter fun m => mayR m.t) := by simp [wts]
      omega
    · omega
theorem mergeR_txs (ts : List Tok) : txs (mergeR ts) ≤ txs ts := by
  have key : ∀ (us acc : List Tok), txs (us.foldl stepM acc) ≤ txs acc + txs us := by
    intro us
    induction us with
    | nil => intro acc; simp
    | cons t us ih =>
      intro acc
      have h1 := stepM_txs acc t
      have h2 := ih (stepM acc t)
      rw [txs_cons]
      simp only [List.foldl_cons]
      omega
  have h := key ts []
  have e : txs (mergeR ts) = txs (accM ts) := by unfold mergeR txs; rw [List.map_reverse, List.sum_reverse]
  rw [e]
  simpa [accM, txs] using h
theorem lns_map (ms : List TokM) : lns ms = (ms.map TokM.t).flatMap lnR := by unfold lns; rw [List.flatMap_map]
set_option maxHeartbeats 1000000 in
theorem tokenBack_ok (ms : List TokM) (p : Option Addr) (c : Nat) (a b : TokM) (hb : wts ms ≤ 1048576) (ha : a.t.wt ≤ 1048576) (hb2 : b.t.wt ≤ 1048576) (w : World) (hT : Toks w p ms)
    (hia : Im [] w a.p (a.t.attrs.flatMap At.cells)) (hib : Im [] w b.p (b.t.attrs.flatMap At.cells)) :
    PureC Try.prog 8 #[.slice p ms.length c, .agg ⟨a.cells⟩, .agg ⟨b.cells⟩] w (.bool true) := by
  have hnl : ms.length ≤ 1048576 := by
    have := sum_len (fun m : TokM => m.t.wt) ms (by intro m _; show 1 ≤ Tok.wt m.t; unfold Tok.wt; omega)
    unfold wts at hb; omega
  have hs : ∀ m ∈ ms, m.t.small := fun m hm => small_of_wt (Nat.le_trans (sum_mem (fun m : TokM => m.t.wt) ms hm) hb)
  have hfl := fm_len TokM.len ms
  have hS := Sep.start w
  refine enter (l := [.slice p ms.length c, .agg ⟨a.cells⟩, .agg ⟨b.cells⟩]) Try.func8 rfl Try.ntmps8 (by kernel_rfl) rfl ?_
  refine sgo ?_
  refine sbox hS fun ba w1 hS => ?_
  replace hS : Sep w w1 [pOwn ba a.cells] := hS
  refine sgo ?_
  refine sbox hS fun bb w2 hS => ?_
  replace hS : Sep w w2 [pOwn bb b.cells, pOwn ba a.cells] := hS
  replace hS : Sep w w2 [pRow 8 none 0 0 [], pOwn bb b.cells, pOwn ba a.cells] := hS.nilRow 8
  refine sgo ?_
  refine wcloop (X := Nat × Option Addr × Nat) (fun x => [(0, .slice p ms.length c), (4, ptrAt (pb ba) 0), (5, ptrAt (pb bb) 0), (7, .slice x.2.1 (mays (ms.take x.1)).length x.2.2), (20, .slice p ms.length c), (21, int ms.length), (22, int x.1)])
    (fun x wr => x.1 ≤ ms.length ∧ Sep w wr [pRow 8 x.2.1 (mays (ms.take x.1)).length x.2.2 ((mays (ms.take x.1)).flatMap TokM.cells), pOwn bb b.cells, pOwn ba a.cells]) (fun x => ms.length - x.1) (0, none, 0) ⟨rfl, rfl, rfl, rfl, rfl, rfl, rfl, trivial⟩ ⟨Nat.zero_le _, hS⟩ ?_
  clear hS
  rintro ⟨i, q, cc⟩ wr ρ ⟨hil, hS⟩
  dsimp only at hil hS ⊢
  refine sgo ?_
  (show WC _ _ _ _ _ _ _; first | refine WC_dec rfl (fun hc => ?_) (fun hc => ?_) | refine WC_cond rfl (fun hc => ?_) (fun hc => ?_))
  · have hlt : i < ms.length := by omega
    clear hc
    have hTr := hT.frm hS.frm
    have hSg := hTr.im.sg
    have hx : ms[i]? = some ms[i] := List.getElem?_eq_getElem hlt
    have hseg := fm_seg TokM.len ms hx
    have hmem : ms[i] ∈ ms := List.getElem_mem hlt
    have hat := hTr.each _ hmem
    have hsm := hs _ hmem
    have hms := mays_succ hx
    have hml := mays_len (ms.take i)
    have htl : (ms.take i).length = i := by rw [List.length_take]; omega
    have hps : ∃ q, p = some q := hSg.some (by omega)
    generalize ms[i] = m at *
    generalize mays (ms.take i) = R at *
    obtain ⟨⟨k, nm, tx, es, sf, a1, a2, a3⟩, mp, mc⟩ := m
    refine sgo ?_
    rw [hseg]
    refine salloc hS fun b9 w3 hS => ?_
    refine sgo ?_
    refine ssta (vs := Tok.cells ⟨k, nm, tx, es, sf, a1, a2, a3⟩ mp mc) hS 0 fun w4 hS => ?_
    replace hS : Sep w w4 [pOwn b9 [int k, str nm, str tx, .slice mp es.length mc, .bool sf, int a1, int a2, int a3], pRow 8 q R.length cc (R.flatMap TokM.cells), pOwn bb b.cells, pOwn ba a.cells] := hS
    refine sgo ?_
    have hat4 := (hT.frm hS.frm).each _ hmem
    refine wlpure (check_ok ⟨k, nm, tx, es, sf, a1, a2, a3⟩ mp mc hsm _ hat4) fun w5 hf5 => ?_
    replace hS := hS.grow hf5
    clear hseg hSg hat hTr
    dsimp only at hms
    cases hm : mayR ⟨k, nm, tx, es, sf, a1, a2, a3⟩ with
    | false =>
      rw [hm, if_neg Bool.false_ne_true, List.append_nil] at hms
      refine sgo ?_
      refine ⟨(i + 1, q, cc), ⟨rfl, rfl, rfl, ?_, rfl, rfl, rfl, trivial⟩, ⟨by dsimp only; omega, ?_⟩, by dsimp only; omega⟩
      · dsimp only; rw [hms]; rfl
      · dsimp only; rw [hms]; exact hS.tail
    | true =>
      rw [hm, if_pos rfl] at hms
      refine sgo ?_
      refine sb1a (vs := Tok.cells ⟨k, nm, tx, es, sf, a1, a2, a3⟩ mp mc) hS fun b3 w6 hS => ?_
      refine sgo ?_
      refine sapp hS 2 (hS.own 0 rfl).sg (fun q' c' w7 hS => ?_) (hl := rfl) (h1 := tok_one _ _ _)
      replace hS : Sep w w7 [pRow 8 q' (R.length + 1) c' (R.flatMap TokM.cells ++ Tok.cells ⟨k, nm, tx, es, sf, a1, a2, a3⟩ mp mc), pOwn bb b.cells, pOwn ba a.cells] := (hS.drop 1).drop 0
      have e1 : (R ++ [(⟨⟨k, nm, tx, es, sf, a1, a2, a3⟩, mp, mc⟩ : TokM)]).length = R.length + 1 := by rw [List.length_append]; rfl
      have e2 : (R ++ [(⟨⟨k, nm, tx, es, sf, a1, a2, a3⟩, mp, mc⟩ : TokM)]).flatMap TokM.cells = R.flatMap TokM.cells ++ Tok.cells ⟨k, nm, tx, es, sf, a1, a2, a3⟩ mp mc := by rw [List.flatMap_append]; rfl
      refine sgo ?_
      refine ⟨(i + 1, q', c'), ⟨rfl, rfl, rfl, ?_, rfl, rfl, rfl, trivial⟩, ⟨by dsimp only; omega, ?_⟩, by dsimp only; omega⟩
      · dsimp only; rw [hms, e1]; rfl
      · dsimp only; rw [hms, e1, e2]; exact hS
  · have hio : i = ms.length := by omega
    clear hc
    subst hio
    rw [List.take_length] at hS ⊢
    have hTR : Toks wr q (mays ms) := ⟨hS.im 0 rfl, fun m hm => (hT.frm hS.frm).each m (mays_mem m hm)⟩
    have hRl := mays_len ms
    have hRw := mays_wts ms
    have hRm := mays_may (ms := ms)
    have hRs : ∀ m ∈ mays ms, m.t.small := fun m hm => hs m (mays_mem m hm)
    generalize mays ms = R at *
    have hall : allMay R = true := by unfold allMay; exact List.all_eq_true.2 hRm
    have hRt : ∀ t ∈ R.map TokM.t, mayR t = true := fun t ht => by obtain ⟨m, hm, rfl⟩ := List.mem_map.1 ht; exact hRm m hm
    have hll : (lns R).length ≤ 3 * wts R := by have := lns_take R R.length; rwa [List.take_length] at this
    have hbk : parseR (lns R) = ((R.map TokM.t).map zeroT, 0) := by rw [lns_map]; exact parse_back hRt
    have hLS : ∀ y ∈ linesR (lns R), lineS y := by
      intro y hy
      rw [lns_map, lines_lns] at hy
      obtain ⟨t, ht, rfl⟩ := List.mem_map.1 hy
      obtain ⟨m, hm, rfl⟩ := List.mem_map.1 ht
      exact lineS_of_line (hRm m hm) (hRs m hm)
    refine sgo ?_
    refine wlpure (list_ok R q cc (by omega) _ hTR) fun w3 hf3 => ?_
    rw [hall, if_pos rfl]
    replace hS := hS.grow hf3
    have hpk := fun w => parse_ok (lns R) (by omega) hLS w
    rw [hbk] at hpk
    dsimp only at hpk
    generalize lns R = S at *
    refine sgo ?_
    refine wlcall (hpk _) ?_
    rintro _ w4 ⟨hf4, ⟨hN, _⟩ | ⟨_, q1, c1, n1, rfl, e1, T1, s1, l1⟩⟩
    · omega
    have hn1 : n1.length = R.length := by have := congrArg List.length e1; simpa using this
    replace hS := hS.grow hf4
    rw [hn1]
    refine sgo ?_
    refine wcno ?_ (ht := by simp [pkb])
    refine sgo ?_
    have hTR4 : Toks w4 q R := (hTR.frm hf3).frm hf4
    have hT4 : Toks w4 q1 n1 := T1.toks
    have hfR := fm_len TokM.len R
    have hfN := fm_len TokM.len n1
    refine wcloop (X := Nat) (fun i => [(0, .slice p ms.length c), (4, ptrAt (pb ba) 0), (5, ptrAt (pb bb) 0), (7, .slice q R.length cc), (12, .slice q1 R.length c1), (63, int R.length), (64, int i)])
      (fun i wr => i ≤ R.length ∧ Frm w4 wr) (fun i => R.length - i) 0 ⟨rfl, rfl, rfl, rfl, rfl, rfl, rfl, trivial⟩ ⟨Nat.zero_le _, Frm.refl _⟩ ?_
    rintro i wr2 ρ2 ⟨hil2, hfr⟩
    refine sgo ?_
    (show WC _ _ _ _ _ _ _; first | refine WC_dec rfl (fun hc => ?_) (fun hc => ?_) | refine WC_cond rfl (fun hc => ?_) (fun hc => ?_))
    · have hlt : i < R.length := by omega
      have hlt1 : i < n1.length := by omega
      clear hc
      have hA := hTR4.frm hfr
      have hB := hT4.frm hfr
      have hSgA := hA.im.sg
      have hImA := hA.im
      have hImB := hB.im
      have hSgB := hB.im.sg
      have hpA : ∃ a, q = some a := hSgA.some (by omega)
      have hpB : ∃ a, q1 = some a := hSgB.some (by omega)
      have hx : R[i]? = some R[i] := List.getElem?_eq_getElem hlt
      have hy : n1[i]? = some n1[i] := List.getElem?_eq_getElem hlt1
      have hsegA := fm_seg TokM.len R hx
      have hsegB := fm_seg TokM.len n1 hy
      have hatA := hA.each _ (List.getElem_mem hlt)
      have hatB := hB.each _ (List.getElem_mem hlt1)
      have hsA := hRs _ (List.getElem_mem hlt)
      have hsB := s1 _ (List.getElem_mem hlt1)
      have hzt : n1[i].t = zeroT R[i].t := by
        have := congrArg (·[i]?) e1
        simp only [List.getElem?_map, hx, hy, Option.map_some] at this
        exact Option.some.inj this
      generalize R[i] = m at *
      generalize n1[i] = n at *
      have heq : eqR n.t m.t = true := by rw [hzt]; exact zero_eq _
      refine sgo ?_
      refine wcdraw ?_
      refine qgo ?_
      rw [hsegA, hsegB]
      refine qlcallp (fun w' hw' => equal_ok n m hsB hsA w' (hatB.frm hw') (hatA.frm hw')) ?_
      rw [heq]
      refine qgo ?_
      refine QL_nil ?_
      intro w7 hf7
      refine thn_normal ?_
      refine sgo ?_
      exact ⟨i + 1, ⟨rfl, rfl, rfl, rfl, rfl, rfl, rfl, trivial⟩, ⟨hlt, hfr.trans hf7⟩, by omega⟩
    · clear hc
      replace hS := hS.grow hfr
      have hfw := hS.frm
      have htx : txs (ms.map TokM.t) ≤ 1048576 := by
        have key : ∀ l : List TokM, txs (l.map TokM.t) ≤ wts l := by
          intro l
          induction l with
          | nil => simp [txs, wts]
          | cons m l ih =>
            have : wts (m :: l) = m.t.wt + wts l := by simp [wts]
            rw [List.map_cons, txs_cons, this]
            have : m.t.text.length ≤ m.t.wt := by unfold Tok.wt; omega
            omega
        exact Nat.le_trans (key ms) hb
      have hsT : ∀ t ∈ ms.map TokM.t, t.small := fun t ht => by obtain ⟨m, hm, rfl⟩ := List.mem_map.1 ht; exact hs m hm
      have hmS := merge_small hsT htx
      have hmL := merge_len (ms.map TokM.t)
      rw [List.length_map] at hmL
      have hmT : txs (mergeR (ms.map TokM.t)) ≤ 1048576 := Nat.le_trans (mergeR_txs _) htx
      refine sgo ?_
      refine wlcall (merge_ok ms p c hnl hs htx _ (hT.frm hfw)) ?_
      rintro _ w5 ⟨hf5, q2, c2, n2, rfl, e2, T2⟩
      have s2 := mem_t e2 Tok.small hmS
      have l2 := len_t e2
      replace hS := hS.grow hf5
      refine sgo ?_
      refine wlcall (merge_ok n2 q2 c2 (by omega) s2 (by rw [e2]; exact hmT) _ T2.toks) ?_
      rintro _ w6 ⟨hf6, q3, c3, n3, rfl, e3, T3⟩
      rw [e2, merge_merge] at e3
      have s3 := mem_t e3 Tok.small hmS
      have l3 := len_t e3
      replace hS := hS.grow hf6
      have T2a := T2.frm hf6
      have e23 : sameR true (n3.map TokM.t) (n2.map TokM.t) = true := by rw [e2, e3]; exact sameR_self true _
      refine sgo ?_
      refine wlpure (same_ok n3 n2 q3 q2 c3 c2 true (by omega) (by omega) s3 s2 _ T3.toks T2a.toks) fun w7 hf7 => ?_
      rw [e23]
      replace hS := hS.grow hf7
      have hsa := small_of_wt ha
      have hsb := small_of_wt hb2
      obtain ⟨⟨ka, na, xa, ea, fa, a1, a2, a3⟩, pa, ca⟩ := a
      obtain ⟨⟨kb, nb, xb, eb, fb, b1, b2, b3⟩, pb', cb⟩ := b
      replace hS : Sep w w7 [pRow 8 q R.length cc (R.flatMap TokM.cells), pOwn bb [int kb, str nb, str xb, .slice pb' eb.length cb, .bool fb, int b1, int b2, int b3], pOwn ba [int ka, str na, str xa, .slice pa ea.length ca, .bool fa, int a1, int a2, int a3]] := hS
      dsimp only at hia hib hsa hsb
      have hpa := fun w hi => print_ok ⟨ka, na, xa, ea, fa, a1, a2, a3⟩ pa ca hsa w hi
      have hpb := fun w hi => print_ok ⟨kb, nb, xb, eb, fb, b1, b2, b3⟩ pb' cb hsb w hi
      have heqR := fun (h1 : mayR ⟨ka, na, xa, ea, fa, a1, a2, a3⟩ = true) (h2 : mayR ⟨kb, nb, xb, eb, fb, b1, b2, b3⟩ = true) => line_eq h1 h2
      refine sgo ?_
      refine wlpure (hpa _ (hia.frm hS.frm)) fun w8 hf8 => ?_
      replace hS := hS.grow hf8
      cases ma : mayR ⟨ka, na, xa, ea, fa, a1, a2, a3⟩ with
      | false =>
        rw [if_neg (by simp)]
        refine sgo ?_
        refine wlpure (hpb _ (hib.frm hS.frm)) fun w9 hf9 => ?_
        replace hS := hS.grow hf9
        obtain ⟨lb, nb2, hV⟩ : ∃ (l : List UInt8) (n : Nat), (if mayR ⟨kb, nb, xb, eb, fb, b1, b2, b3⟩ = true then (.tuple #[str (lineR ⟨kb, nb, xb, eb, fb, b1, b2, b3⟩), int 0] : Value) else .tuple #[str [], int 70]) = .tuple #[str l, int n] := by
          split
          · exact ⟨_, 0, rfl⟩
          · exact ⟨[], 70, rfl⟩
        rw [hV]
        refine sgo ?_
        refine wlcallgp (vals := [.agg ⟨Tok.cells ⟨ka, na, xa, ea, fa, a1, a2, a3⟩ pa ca⟩, .agg ⟨Tok.cells ⟨kb, nb, xb, eb, fb, b1, b2, b3⟩ pb' cb⟩]) (fun _ => equal_ok ⟨⟨ka, na, xa, ea, fa, a1, a2, a3⟩, pa, ca⟩ ⟨⟨kb, nb, xb, eb, fb, b1, b2, b3⟩, pb', cb⟩ hsa hsb _ (hia.frm hS.frm) (hib.frm hS.frm)) fun w10 hf10 => ?_
        replace hS := hS.grow hf10
        refine sgo ?_
        refine wlcallgp (vals := []) (fun _ => lives_ok _) (fun w11 hf11 => ?_) (ha := fun _ => rfl)
        have hf := hS.frm.trans hf11
        clear hf10 hf11 hS
        refine sgo ?_
        (first | refine fp1 (.inl rfl) rfl rfl ?_ | refine fp2 (.inl rfl) rfl rfl rfl ?_ | refine fp3 (.inl rfl) rfl rfl rfl rfl ?_ | refine fp0 (.inr rfl) rfl ?_ | refine fp0 (.inl rfl) rfl ?_ | refine fp1 (.inr rfl) rfl rfl ?_); refine ⟨?_, by (first | exact Frm.refl _ | assumption | exact Go.Sv.Sep.frm (by assumption) | (refine Frm.trans ?_ (by assumption); first | exact Frm.refl _ | assumption))⟩; (try simp only [realB, rv_true, Nat.reduceBEq, cond_true, cond_false, entG, real_lif, updGL])
        all_goals (simp [pkb])
      | true =>
        rw [if_pos rfl]
        refine sgo ?_
        refine wlpure (hpb _ (hib.frm hS.frm)) fun w9 hf9 => ?_
        replace hS := hS.grow hf9
        cases mb : mayR ⟨kb, nb, xb, eb, fb, b1, b2, b3⟩ with
        | false =>
          rw [if_neg (by simp)]
          refine sgo ?_
          refine wlcallgp (vals := [.agg ⟨Tok.cells ⟨ka, na, xa, ea, fa, a1, a2, a3⟩ pa ca⟩, .agg ⟨Tok.cells ⟨kb, nb, xb, eb, fb, b1, b2, b3⟩ pb' cb⟩]) (fun _ => equal_ok ⟨⟨ka, na, xa, ea, fa, a1, a2, a3⟩, pa, ca⟩ ⟨⟨kb, nb, xb, eb, fb, b1, b2, b3⟩, pb', cb⟩ hsa hsb _ (hia.frm hS.frm) (hib.frm hS.frm)) fun w10 hf10 => ?_
          replace hS := hS.grow hf10
          refine sgo ?_
          refine wlcallgp (vals := []) (fun _ => lives_ok _) (fun w11 hf11 => ?_) (ha := fun _ => rfl)
          have hf := hS.frm.trans hf11
          clear hf10 hf11 hS
          refine sgo ?_
          (first | refine fp1 (.inl rfl) rfl rfl ?_ | refine fp2 (.inl rfl) rfl rfl rfl ?_ | refine fp3 (.inl rfl) rfl rfl rfl rfl ?_ | refine fp0 (.inr rfl) rfl ?_ | refine fp0 (.inl rfl) rfl ?_ | refine fp1 (.inr rfl) rfl rfl ?_); refine ⟨?_, by (first | exact Frm.refl _ | assumption | exact Go.Sv.Sep.frm (by assumption) | (refine Frm.trans ?_ (by assumption); first | exact Frm.refl _ | assumption))⟩; (try simp only [realB, rv_true, Nat.reduceBEq, cond_true, cond_false, entG, real_lif, updGL])
          all_goals (simp [pkb])
        | true =>
          rw [if_pos rfl]
          have hlq := heqR ma mb
          generalize lineR ⟨ka, na, xa, ea, fa, a1, a2, a3⟩ = la at *
          generalize lineR ⟨kb, nb, xb, eb, fb, b1, b2, b3⟩ = lb at *
          refine sgo ?_
          refine wlcallgp (vals := [.agg ⟨Tok.cells ⟨ka, na, xa, ea, fa, a1, a2, a3⟩ pa ca⟩, .agg ⟨Tok.cells ⟨kb, nb, xb, eb, fb, b1, b2, b3⟩ pb' cb⟩]) (fun _ => equal_ok ⟨⟨ka, na, xa, ea, fa, a1, a2, a3⟩, pa, ca⟩ ⟨⟨kb, nb, xb, eb, fb, b1, b2, b3⟩, pb', cb⟩ hsa hsb _ (hia.frm hS.frm) (hib.frm hS.frm)) fun w10 hf10 => ?_
          replace hS := hS.grow hf10
          have hdq : decide (la = lb) = eqR ⟨ka, na, xa, ea, fa, a1, a2, a3⟩ ⟨kb, nb, xb, eb, fb, b1, b2, b3⟩ := by
            rw [Bool.eq_iff_iff, decide_eq_true_eq]
            exact hlq
          refine sgo ?_
          refine wlcallgp (vals := []) (fun _ => lives_ok _) (fun w11 hf11 => ?_) (ha := fun _ => rfl)
          have hf := hS.frm.trans hf11
          clear hf10 hf11 hS
          refine sgo ?_
          (first | refine fp1 (.inl rfl) rfl rfl ?_ | refine fp2 (.inl rfl) rfl rfl rfl ?_ | refine fp3 (.inl rfl) rfl rfl rfl rfl ?_ | refine fp0 (.inr rfl) rfl ?_ | refine fp0 (.inl rfl) rfl ?_ | refine fp1 (.inr rfl) rfl rfl ?_); refine ⟨?_, by (first | exact Frm.refl _ | assumption | exact Go.Sv.Sep.frm (by assumption) | (refine Frm.trans ?_ (by assumption); first | exact Frm.refl _ | assumption))⟩; (try simp only [realB, rv_true, Nat.reduceBEq, cond_true, cond_false, entG, real_lif, updGL])
          all_goals (simp [pkb, hdq])
end Go.Proofs.Ytfomfplddncakaa

/-
  From a frame to what a row asks behind the call: nothing that was there has turned (new blocks may be frozen).
-/
set_option linter.unusedSimpArgs false
set_option linter.unusedVariables false
set_option linter.unnecessarySimpa false
namespace Go.ChangeShapes
section
variable {H : Type} {enc : TypeId × Value → H} {P : Program}
theorem post_frm {f : Func} {s : ChangeSpec} {apart fresh handsOn again : Bool} {W W' : World} {args : Array Value} {v : Value} {ds gs : List (DataW H)} {before pa pv : List MemPlace}
    (hW : DataW.Whole enc P f.params.toList s.vars apart W args.toList ds gs before)
    (hres : ∀ (b : Nat) (sp : Nat → Bool) (hd : Bool), DataW.TrodAll enc P W' b sp hd f.resultTypes.toList (v.resultList f.resultTypes.size) (s.fn H (ds ++ gs)).results [])
    (hargs : ∀ sp : Nat → Bool, (∀ p ∈ before, sp p.block = true) → DataW.TrodAll enc P W' 0 sp true f.params.toList args.toList (s.fn H (ds ++ gs)).args pa)
    (hvars : ∀ sp : Nat → Bool, (∀ p ∈ before, sp p.block = true) → DataW.TrodVars enc P W' sp s.vars (s.fn H (ds ++ gs)).vars pv)
    (hps : before = pa ++ pv) (hk : Sv.Frm W W')
    (hok : ∀ (j : Nat) (t : TypeId) (r : Value), f.resultTypes[j]? = some t → (v.resultList f.resultTypes.size)[j]? = some r → Value.okWide P W' .any 0 t r) :
    s.post enc P f apart fresh handsOn again W args v W' := by
  have hold : ∀ p ∈ before, (fun b => decide (b < W.heap.size)) p.block = true := fun p hp => by simpa using hW.lt p hp
  refine ⟨ds, gs, before, [], pa, pv, hW, hres _ _ _, hargs _ hold, hvars _ hold, World.keptBut_mono (fun p hp => ⟨hp, ?_⟩) (RowKit.Below.frame hk (· ∈ before)), fun _ => ?_⟩
  · rw [hps, List.mem_append] at hp
    exact Or.inr hp
  · have hlt := hW.lt
    obtain ⟨_, _, _, _, _, hz, hn⟩ := hW
    refine ⟨hok, _, _, ([] ++ pa) ++ pv, ⟨[] ++ pa, pv, trodAll_append (hargs _ (fun _ _ => rfl)) (hres _ _ _), hvars _ (fun _ _ => rfl), rfl, ?_, ?_⟩, ?_⟩
    · intro b off hp
      have hp' : (.cell b off : MemPlace) ∈ before := by rw [hps]; simpa using hp
      rw [RowKit.Below.frozen hk (hlt _ hp')]
      exact hz b off hp'
    · intro ha
      have := hn ha
      rw [hps] at this
      simpa using this
    · intro p hp _
      rw [hps]
      simpa using hp
end
end Go.ChangeShapes

/-
  From a reading of the arguments to what lies in memory; and back: a law leaves the arguments as they were.
-/
set_option linter.unusedSimpArgs false
set_option linter.unusedVariables false
set_option linter.unnecessarySimpa false
namespace Go.Sv
open Go Go.RowKit Go.ChangeShapes Go.WideShapes
theorem cell_lt {w : World} {a : Addr} {v : Value} (h : w.cell? a = some v) : a.block < w.heap.size := by
  rcases Nat.lt_or_ge a.block w.heap.size with h1 | h1
  · exact h1
  · have : w.heap[a.block]? = none := Array.getElem?_eq_none h1
    simp [World.cell?, this] at h
theorem seg_app {w : World} {a : Addr} {l l' : List Value} (h : seg w a l) (h' : seg w (a.add l.length) l') : seg w a (l ++ l') := by
  intro i hi
  rcases Nat.lt_or_ge i l.length with h1 | h1
  · rw [h i h1, List.getElem?_append_left h1]
  · have := h' (i - l.length) (by simp at hi; omega)
    rw [add_add, show l.length + (i - l.length) = i by omega] at this
    rw [this, List.getElem?_append_right h1]
theorem seg_range {w : World} {a : Addr} {k : Nat} (f : Nat → List Value) : ∀ n : Nat, (∀ i, i < n → (f i).length = k ∧ seg w (a.add (i * k)) (f i)) → seg w a ((List.range n).flatMap f) ∧ ((List.range n).flatMap f).length = n * k
  | 0, _ => ⟨fun i hi => by simp at hi, by simp⟩
  | n + 1, h => by
    obtain ⟨h1, h2⟩ := seg_range f n fun i hi => h i (by omega)
    obtain ⟨h3, h4⟩ := h n (by omega)
    rw [List.range_succ, List.flatMap_append]
    simp only [List.flatMap_cons, List.flatMap_nil, List.append_nil]
    refine ⟨seg_app h1 (by rw [h2]; exact h4), ?_⟩
    rw [List.length_append, h2, h3, Nat.succ_mul]
/-- a law's ending: it answered true, and left all as it was -/
theorem trodAll_frm {H : Type} {enc : TypeId × Value → H} {P : Program} (hl : laidOutB P = true) {W W' : World} (hf : Sv.Frm W W') {sp : Nat → Bool} : ∀ {ts : List TypeId} {vs : List Value} {ds : List (DataW H)} {ps : List MemPlace},
    (∀ t ∈ ts, P.readableRec t = true ∧ t < P.types.size) → DataW.TrodAll enc P W 0 (fun _ => true) true ts vs ds ps → (∀ p ∈ ps, p.block < W.heap.size) → (∀ p ∈ ps, sp p.block = true) → DataW.TrodAll enc P W' 0 sp true ts vs ds ps
  | [], [], [], _, _, h, _, _ => h
  | t :: ts, v :: vs, d :: ds, _, ht, ⟨p, q, h1, h2, e⟩, hlt, hs => by
    subst e
    refine ⟨p, q, ?_, ?_, rfl⟩
    · obtain ⟨hr, hrow⟩ := ht t List.mem_cons_self
      exact WideElems.Trod_stays hl hr hrow h1 (fun x hx => RowKit.Below.same hf (hlt x (List.mem_append_left _ hx))) fun x hx => hs x (List.mem_append_left _ hx)
    · exact trodAll_frm hl hf (fun t ht' => ht t (List.mem_cons_of_mem _ ht')) h2 (fun x hx => hlt x (List.mem_append_right _ hx)) fun x hx => hs x (List.mem_append_right _ hx)
theorem law_ends {H : Type} {enc : TypeId × Value → H} {P : Program} {f : Func} {s : ChangeSpec} {W W' : World} {args : Array Value} {ds gs : List (DataW H)} {before : List MemPlace} {tb : TypeId}
    (hl : laidOutB P = true) (hT : ∀ t ∈ f.params.toList, P.readableRec t = true ∧ t < P.types.size) (hv : s.vars = []) (hrt : f.resultTypes = #[tb]) (hb : P.underlying tb = some .bool)
    (hW : DataW.Whole enc P f.params.toList s.vars false W args.toList ds gs before) (hfn : s.fn H (ds ++ gs) = { results := [.lit (.bool true)], args := ds ++ gs }) (hg : Frm W W') :
    s.post enc P f false true false false W args (.bool true) W' := by
  have hW' := hW
  have hlt := hW.lt
  obtain ⟨p, q, hA, hV, rfl, _, _⟩ := hW
  rw [hv] at hV
  obtain ⟨rfl, rfl⟩ := trodVars_none hV
  have hrl : (Value.bool true).resultList f.resultTypes.size = [.bool true] := by rw [hrt]; rfl
  simp only [List.append_nil] at hlt hfn
  refine post_frm (pa := p) (pv := []) hW' (fun _ _ _ => ?_) (fun sp hsp => ?_) (fun _ _ => ?_) rfl hg (ok_one hrt rfl (okWide_bool_mk hb _))
  · rw [hrt]
    simp only [List.append_nil, hfn]
    exact trodAll_cons_mk (shut_bool hb _) trodAll_mk0
  · simp only [List.append_nil, hfn]
    exact trodAll_frm hl hg hT hA hlt (fun x hx => hsp x (by simpa using hx))
  · simp only [List.append_nil, hfn, hv]
    rfl
end Go.Sv
namespace Go.Proofs.Ytfomfplddncakaa
open Go Go.Sv Go.RowKit Go.ChangeShapes Go.WideShapes Go.Deep

theorem laidOut : laidOutB Try.prog = true := by kernel_rfl
theorem own : ownKnob Try.prog.godebug = none := by kernel_rfl

section
variable {H : Type} {P : Program} {enc : TypeId × Value → H} {w : World} {base : Nat} {spare : Nat → Bool} {held : Bool}
theorem bulkAll_eq : ∀ l : List (DataW H), Rows.uptoBulkAll l = (l.map Rows.uptoBulk).sum
  | [] => by simp [Rows.uptoBulkAll]
  | d :: l => by simp only [Rows.uptoBulkAll, List.map_cons, List.sum_cons, bulkAll_eq l]
theorem bulk_slice (es rs : List (DataW H)) : Rows.uptoBulk (.slice es rs) = (es.map Rows.uptoBulk).sum + (rs.map Rows.uptoBulk).sum + 1 := by simp only [Rows.uptoBulk, bulkAll_eq]
theorem bulk_agg (es : List (DataW H)) : Rows.uptoBulk (.agg es) = (es.map Rows.uptoBulk).sum + 1 := by simp only [Rows.uptoBulk, bulkAll_eq]
theorem bulk_nil : Rows.uptoBulk (.nil : DataW H) = 1 := by simp only [Rows.uptoBulk]
theorem bulk_str (l : List UInt8) : Rows.uptoBulk (.lit (.string l) : DataW H) = l.length + 1 := by simp only [Rows.uptoBulk]
theorem bulk_int (k : IntKind) (n : Int) : Rows.uptoBulk (.lit (.int k n) : DataW H) = 1 := by simp only [Rows.uptoBulk]
theorem bulk_bool (b : Bool) : Rows.uptoBulk (.lit (.bool b) : DataW H) = 1 := by simp only [Rows.uptoBulk]

/-- a slice of records: what they are, where they lie, and what they hold together -/
theorem open_recs {t e : TypeId} {fuel : Nat} {cs : List Value} {x : DataW H × List MemPlace} {α : Type} (cells : α → List Value) (wt : α → Nat) (Q : α → Prop) (ht : P.underlying t = some (.slice e))
    (h : DataW.trod enc P w base spare held fuel t cs = some x)
    (hrec : ∀ k cs' y, cs'.length = P.cellsOf e → DataW.trod enc P w base spare held k e cs' = some y → ∃ r, cs' = cells r ∧ Q r ∧ wt r ≤ Rows.uptoBulk y.1) :
    ∃ (p : Option Addr) (c : Nat) (rs : List α), cs = [.slice p rs.length c] ∧ rs.length ≤ c ∧ c ≤ maxLen ∧ Im [] w p (rs.flatMap cells) ∧ (∀ r ∈ rs, Q r) ∧ (rs.map wt).sum + 1 ≤ Rows.uptoBulk x.1 := by
  rcases open_slice ht h with ⟨rfl, rfl⟩ | ⟨a, len, cap, m, n, D, Pl, rfl, _, hl, hm, hmm, rfl, hi⟩
  · exact ⟨none, 0, [], rfl, Nat.le_refl _, Nat.zero_le _, .inl rfl, by simp, by simp [bulk_nil]⟩
  · have hlm : len ≤ m := by rw [hmm]; split <;> omega
    have key : ∀ n : Nat, n ≤ len → ∃ rs : List α, rs.length = n ∧ rs.flatMap cells = (List.range n).flatMap (fun i => (w.cells? base (a.add (i * P.cellsOf e)) (P.cellsOf e)).getD []) ∧ (∀ r ∈ rs, Q r) ∧ (rs.map wt).sum ≤ ((List.range n).map fun i => Rows.uptoBulk (D i)).sum := by
      intro n
      induction n with
      | zero => intro _; exact ⟨[], rfl, rfl, by simp, by simp⟩
      | succ n ih =>
        intro hn
        obtain ⟨rs, h1, h2, h3, h4⟩ := ih (by omega)
        obtain ⟨cs', h5, h6⟩ := hi n (by omega)
        obtain ⟨_, hcl, _⟩ := World.cells?_some h5
        obtain ⟨r, h7, h8, h9⟩ := hrec _ _ _ hcl h6
        refine ⟨rs ++ [r], by simp [h1], ?_, ?_, ?_⟩
        · rw [List.range_succ, List.flatMap_append, List.flatMap_append, h2]
          simp [h5, h7]
        · intro x hx
          rcases List.mem_append.1 hx with hx | hx
          · exact h3 x hx
          · rw [List.mem_singleton.1 hx]; exact h8
        · rw [List.range_succ, List.map_append, List.map_append, List.sum_append, List.sum_append]
          simp only [List.map_cons, List.map_nil, List.sum_cons, List.sum_nil]
          dsimp only at h9
          omega
    obtain ⟨rs, h1, h2, h3, h4⟩ := key len (Nat.le_refl _)
    refine ⟨some a, cap, rs, by rw [h1], by omega, hm, ?_, h3, ?_⟩
    · rw [h2]
      have hsr := seg_range (w := w) (a := a) (k := P.cellsOf e) (fun i => (w.cells? base (a.add (i * P.cellsOf e)) (P.cellsOf e)).getD []) len (fun i hil => by
        obtain ⟨cs', h5, _⟩ := hi i (by omega)
        obtain ⟨_, hcl, hat⟩ := World.cells?_some h5
        rw [h5]
        exact ⟨hcl, fun j hj => hat j (by simpa [hcl] using hj)⟩)
      generalize (List.range len).flatMap (fun i => (w.cells? base (a.add (i * P.cellsOf e)) (P.cellsOf e)).getD []) = L at *
      cases L with
      | nil => exact .inl rfl
      | cons v L =>
        refine .inr ⟨a, rfl, hsr.1, ?_, by simp⟩
        have := hsr.1 0 (by simp)
        have h0 : w.cell? (a.add 0) = some v := this
        have := cell_lt h0
        rwa [add_block] at this
    · rw [bulk_slice, List.map_map]
      have : ((List.range len).map (Rows.uptoBulk ∘ D)).sum = ((List.range len).map fun i => Rows.uptoBulk (D i)).sum := rfl
      omega
theorem str_of (s : ByteArray) : Value.string s = str s.data.toList := by cases s; rfl
/-- a cell that is a text -/
theorem open_strc {t : TypeId} {fuel : Nat} {cs : List Value} {x : DataW H × List MemPlace} (ht : P.underlying t = some .string) (h : DataW.trod enc P w base spare held fuel t cs = some x) : ∃ l : List UInt8, cs = [str l] ∧ Rows.uptoBulk x.1 = l.length + 1 := by
  obtain ⟨s, rfl, rfl, _⟩ := DataW.trod_string ht h
  exact ⟨s.data.toList, by rw [str_of], bulk_str _⟩
theorem open_intc {t : TypeId} {k : IntKind} {fuel : Nat} {cs : List Value} {x : DataW H × List MemPlace} (ht : P.underlying t = some (.int k)) (h : DataW.trod enc P w base spare held fuel t cs = some x) : ∃ n : Int, cs = [.int k n] ∧ k.min ≤ n ∧ n ≤ k.max ∧ Rows.uptoBulk x.1 = 1 := by
  obtain ⟨n, rfl, rfl, hw⟩ := DataW.trod_int ht h
  simp only [Lit.wf, IntKind.has, Bool.and_eq_true, decide_eq_true_eq] at hw
  exact ⟨n, rfl, hw.1, hw.2, bulk_int _ _⟩
theorem open_boolc {t : TypeId} {fuel : Nat} {cs : List Value} {x : DataW H × List MemPlace} (ht : P.underlying t = some .bool) (h : DataW.trod enc P w base spare held fuel t cs = some x) : ∃ b : Bool, cs = [.bool b] ∧ Rows.uptoBulk x.1 = 1 := by
  obtain ⟨b, rfl, rfl⟩ := DataW.trod_bool ht h
  exact ⟨b, rfl, bulk_bool _⟩
theorem small_le {ds : List (DataW H)} (hk : Rows.uptoSmall H ds = true) : (ds.map Rows.uptoBulk).sum ≤ 1048576 := by
  have := of_decide_eq_true hk
  rwa [bulkAll_eq] at this
end
end Go.Proofs.Ytfomfplddncakaa

/-
  Readings of attributes and tokens: what lies in memory.
-/
set_option linter.unusedSimpArgs false
set_option linter.unusedVariables false
set_option linter.unnecessarySimpa false
namespace Go.Proofs.Ytfomfplddncakaa
open Go Go.Sv Go.RowKit Go.ChangeShapes Go.WideShapes Go.Deep

theorem c_str : Try.prog.cellsOf 9 = 1 := by kernel_rfl
theorem c_bool : Try.prog.cellsOf 4 = 1 := by kernel_rfl
theorem c_int : Try.prog.cellsOf 3 = 1 := by kernel_rfl
theorem c_kind : Try.prog.cellsOf 24 = 1 := by kernel_rfl
theorem c_place : Try.prog.cellsOf 27 = 3 := by kernel_rfl
theorem c_attrs : Try.prog.cellsOf 25 = 1 := by kernel_rfl
theorem c_attr : Try.prog.cellsOf 42 = 2 := by kernel_rfl
theorem c_tok : Try.prog.cellsOf 29 = 8 := by kernel_rfl
section
variable {H : Type} {enc : TypeId × Value → H} {w : World} {base : Nat} {spare : Nat → Bool} {held : Bool}
set_option maxRecDepth 100000 in
theorem open_at {fuel : Nat} {cs : List Value} {x : DataW H × List MemPlace} (h : DataW.trod enc Try.prog w base spare held fuel 42 cs = some x) : ∃ r : At, cs = r.cells ∧ True ∧ r.wt ≤ Rows.uptoBulk x.1 := by
  obtain ⟨xs, n, _, rfl, hl, hlen, hf⟩ := DataW.trod_struct Try.underlying42 h
  rw [c_attr] at hl
  have f0 := hf 0 _ rfl
  have f1 := hf 1 _ rfl
  clear hf h
  match cs, hl with
  | [c0, c1], _ =>
    match xs, hlen with
    | [y0, y1], _ =>
      simp only [c_str, List.drop_zero, List.drop_succ_cons, List.take_succ_cons, List.take_zero, List.getElem?_cons_zero, List.getElem?_cons_succ] at f0 f1
      obtain ⟨l0, e0, b0⟩ := open_strc Try.underlying9 f0
      obtain ⟨l1, e1, b1⟩ := open_strc Try.underlying9 f1
      injection e0 with e0
      injection e1 with e1
      subst e0 e1
      refine ⟨⟨l0, l1⟩, rfl, trivial, ?_⟩
      rw [bulk_agg]
      simp only [List.map_cons, List.map_nil, List.sum_cons, List.sum_nil, b0, b1, At.wt]
      omega
set_option maxRecDepth 100000 in
theorem open_tok {fuel : Nat} {cs : List Value} {x : DataW H × List MemPlace} (h : DataW.trod enc Try.prog w base spare held fuel 29 cs = some x) : ∃ r : TokM, cs = r.cells ∧ Im [] w r.p (r.t.attrs.flatMap At.cells) ∧ r.t.wt ≤ Rows.uptoBulk x.1 := by
  obtain ⟨xs, n, _, rfl, hl, hlen, hf⟩ := DataW.trod_struct Try.underlying29 h
  rw [c_tok] at hl
  have f0 := hf 0 _ rfl
  have f1 := hf 1 _ rfl
  have f2 := hf 2 _ rfl
  have f3 := hf 3 _ rfl
  have f4 := hf 4 _ rfl
  have f5 := hf 5 _ rfl
  clear hf h
  match cs, hl with
  | [c0, c1, c2, c3, c4, c5, c6, c7], _ =>
    match xs, hlen with
    | [y0, y1, y2, y3, y4, y5], _ =>
      simp only [c_str, c_bool, c_kind, c_place, c_attrs, List.drop_zero, List.drop_succ_cons, List.take_succ_cons, List.take_zero, List.getElem?_cons_zero, List.getElem?_cons_succ] at f0 f1 f2 f3 f4 f5
      obtain ⟨k, e0, _, _, b0⟩ := open_intc Try.underlying24 f0
      obtain ⟨l1, e1, b1⟩ := open_strc Try.underlying9 f1
      obtain ⟨l2, e2, b2⟩ := open_strc Try.underlying9 f2
      obtain ⟨p, c, es, e3, _, _, him, _, b3⟩ := open_recs At.cells At.wt (fun _ => True) Try.underlying25 f3 (fun k cs' y _ hy => open_at hy)
      obtain ⟨b, e4, b4⟩ := open_boolc Try.underlying4 f4
      obtain ⟨zs, m, _, rfl, _, hzl, hz⟩ := DataW.trod_struct Try.underlying27 f5
      have g0 := hz 0 _ rfl
      have g1 := hz 1 _ rfl
      have g2 := hz 2 _ rfl
      clear hz
      match zs, hzl with
      | [z0, z1, z2], _ =>
        simp only [c_int, List.drop_zero, List.drop_succ_cons, List.take_succ_cons, List.take_zero, List.getElem?_cons_zero, List.getElem?_cons_succ] at g0 g1 g2
        obtain ⟨n0, e5, _, _, b5⟩ := open_intc Try.underlying3 g0
        obtain ⟨n1, e6, _, _, b6⟩ := open_intc Try.underlying3 g1
        obtain ⟨n2, e7, _, _, b7⟩ := open_intc Try.underlying3 g2
        injection e0 with e0; injection e1 with e1; injection e2 with e2; injection e3 with e3; injection e4 with e4; injection e5 with e5; injection e6 with e6; injection e7 with e7
        subst e0 e1 e2 e3 e4 e5 e6 e7
        refine ⟨⟨⟨k, l1, l2, es, b, n0, n1, n2⟩, p, c⟩, rfl, him, ?_⟩
        simp only [bulk_agg, List.map_cons, List.map_nil, List.sum_cons, List.sum_nil, b0, b1, b2, b4, b5, b6, b7]
        unfold Tok.wt
        dsimp only at b3 ⊢
        omega
set_option maxRecDepth 100000 in
theorem open_toks {v : Value} {d : DataW H} {ps : List MemPlace} {r : Reach} {b0 : Nat} (hv : Value.okWide Try.prog w r b0 23 v) (h : DataW.Trod enc Try.prog w base spare held 23 v d ps) :
    ∃ (p : Option Addr) (c : Nat) (ms : List TokM), v = .slice p ms.length c ∧ Toks w p ms ∧ wts ms + 1 ≤ Rows.uptoBulk d := by
  obtain ⟨a, n, cc, rfl⟩ := okWide_slice Try.underlying23 hv
  obtain ⟨fuel, hf⟩ := h
  obtain ⟨p, c, ms, e, _, _, him, hQ, hw⟩ := open_recs TokM.cells (fun m => m.t.wt) (fun m => Im [] w m.p (m.t.attrs.flatMap At.cells)) Try.underlying23 hf (fun k cs' y _ hy => open_tok hy)
  have e' : Value.slice a n cc = .slice p ms.length c := by simpa [Value.cells] using e
  exact ⟨p, c, ms, e', ⟨him, hQ⟩, hw⟩
set_option maxRecDepth 100000 in
theorem open_tok1 {v : Value} {d : DataW H} {ps : List MemPlace} {r : Reach} {b0 : Nat} (hv : Value.okWide Try.prog w r b0 29 v) (h : DataW.Trod enc Try.prog w base spare held 29 v d ps) :
    ∃ m : TokM, v = .agg ⟨m.cells⟩ ∧ Im [] w m.p (m.t.attrs.flatMap At.cells) ∧ m.t.wt ≤ Rows.uptoBulk d := by
  obtain ⟨cs, rfl, _⟩ := okWide_struct Try.underlying29 hv
  obtain ⟨fuel, hf⟩ := h
  obtain ⟨m, e, him, hw⟩ := open_tok hf
  refine ⟨m, ?_, him, hw⟩
  have e' : cs.toList = m.cells := by simpa [Value.cells] using e
  rw [← e']
end
end Go.Proofs.Ytfomfplddncakaa

